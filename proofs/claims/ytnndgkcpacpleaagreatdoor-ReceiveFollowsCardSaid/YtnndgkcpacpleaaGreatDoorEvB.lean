/- EvB: a part of the evaluator,of its logic,or of the laws' walk in it. -/
import Derived.Test.YtnndgkcpacpleaaGreatDoorEvA
import Derived.Laws.BytesString
import Derived.Laws.MakeOwn
import Derived.Laws.Tables
import Derived.Laws.StructEq
open Nat renaming le_refl → YB,beq → YM,ble → YX,add → Yd,lt_or_ge → Yh,mul → Yj,mod → Yq,shiftLeft → Yt,blt → Yx,shiftRight → WC,zero_add → WJ,succ → WN,mul_one → WS,ble_eq_true_of_le → WV,add_mul → Wi,sub → Wn,zero_mul → Wp,mod_lt → QG,pow_mul → QS,mul_le_mul_right → QU,mul_le_mul → YP2
open Or renaming inr → YE,inl → YG
open List renaming length_cons → YH,mem_cons_of_mem → YI,mem_cons_self → YJ,nil_append → YK,map_cons → YP,mem_of_getElem? → YS,take_of_length_le → YV,mem_cons → Yb,map_nil → Yc,getElem?_map → Yg,mem_map → Yi,getElem?_append_right → Ym,mem_append → Yn,getElem?_eq_some_iff → Yo,getElem?_append_left → Yp,length_map → Ys,map_append → WB,drop_zero → WH,take_zero → WK,nodup_cons → Wg,foldl_cons → Qa,ext_getElem? → Qc,nodup_nil → Qh,map_take → Qu,map_toArray → YB3,foldlM_cons → YB4,foldlM_nil → YD1,size_toArray → YG2,eraseIdx_nil → YN0
open Bool renaming false_eq_true → YT,and_eq_true → Yz
open Option renaming map_eq_some_iff → Ye
open Array renaming getElem?_toList → Yw,replicate → Qb,getElem?_push_size → Qv,toList_push → YN1,size_append → YN2
set_option linter.unusedVariables false
set_option linter.unusedSimpArgs false
set_option linter.unusedSectionVars false
section
namespace Go.Ev
open Go.RowKit
section
variable {P:Program} {nt:Nat} {o:Oper} {id:Nat} {ph:cU} {e:Env} {H:Heap} {k:K}
theorem lZ {m} {bl} {row} {c} {t} {fr} (h:rowOf bl=some row) (hcan:∀ len n,bl = .bytes len n->n<256 ^ len) (hR:ju m row c fr) (hns:∀ l,bl = .cells l->¬ (fr.1<=c.size/\c.size<fr.2):=by first|(intro _ _;simp;done)|(intro _ e;cases e)):BR P m bl (.cells c t fr):=by
 cases bl with
 | cells l=>simp only [rowOf,Option.some.injEq]at h;subst h;exact ⟨c,t,fr,rfl,hR,hns _ rfl⟩
 | bytes len n=>
  simp only [rowOf,Option.some.injEq]at h
  subst h
  exact ⟨c,t,fr,rfl,⟨hcan len n rfl,λi y hy=>by
   obtain ⟨_,cv,t1,t2⟩:=hR.1 i (eN y) (by simp_all)
   rw [t1,t2.Vo.2]⟩,hR.2⟩
 | _=>simp [rowOf]at h
theorem PR.fresh {base:Nat} {w0 w w':World} {rho:Nat->Option Nat} {H':Heap} (h:PR P base w0 rho H w) {bl:eK} (hN:oE H bl H') {row:List V} (hrow:rowOf bl=some row) (hcan:∀ len n,bl = .bytes len n->n<256 ^ len)
 {c:Array Value} {t:TypeId} {fr:Nat × Nat} (hR:ju (mu rho H w) row c fr) (hs:IY w w') (hh:w'.heap=w.heap.push (.cells c t fr)) (hns:∀ l,bl = .cells l->¬ (fr.1<=c.size/\c.size<fr.2):=by first|(intro _ _;simp;done)|(intro _ e;cases e)):
 ∃ rho',PR P base w0 rho' H' w'/\Ext rho H w rho' H' w'/\(mu rho' H' w').b H.n w.heap.size:=by
 obtain ⟨p1,p2⟩:=h.alloc (w':=w') (o:=.cells c t fr) hN.n hN.bz hN.get hN.vU (gO hrow).1 hs (by simp [hh]) (by simp [hh]) (λj hj=>by rw [hh,Array.getElem?_push,if_neg (by omega)]) (lZ hrow hcan hR hns)
 exact ⟨_,p1,p2,by rw [hN.n];omega,λ_=>by simp⟩
theorem ju.exact {m:M} {row:List V} {cs:Array Value} (h:cm m row cs.toList) (h1:∀ v ∈ row,v.one=true):ju m row cs (0,0):=by
 refine ⟨λi v hi=>?_,λi _=>by simp⟩
 obtain ⟨c,h2,h3⟩:=h.get hi
 exact ⟨h1 v (YS hi),c,by simpa using h2,h3⟩
theorem MI:∀ {z},z8 z=true->z=(aB z.length 0).map eN
 | [],_=>rfl
 | .int 4 0 :: l,h=>by
  have h':z8 l=true:=h
  have:=MI h'
  simp only [YH,aB,YP,eN]
  grind
theorem mS {t} {z} (h:qU P t=some z):∃ i zv,P.info? t=some i/\i.zero=some zv/\(∀ m,cm m z zv.cells.toList)/\∀ v ∈ z,v.one=true:=by
 unfold qU at h
 split at h
 .rename_i i hi
  split at h
  .rename_i zv hz
   exact ⟨i,zv,hi,hz,λm=>(mq h).1,(mq (mu:=⟨λ_ _=>True,λ_ _=>True⟩) h).2⟩
  simp_all
 simp_all
theorem Xd {t} (hop:o.op = .alloc t) (h:aL (ai P nt o) id ph e H k=1):Good P nt o e H k:=by
 simp only [ai,hop]at h
 have hnd:∀ c,o.op ≠ .defer c:=by simp_all
 have key:∀ (z) (bl),qU P t=some z->rowOf bl=some z->(∀ len n,bl = .bytes len n->n<256 ^ len)->(cB H bl λn H=>k (.ptr n 0) H)=1->Good P nt o e H k:=by
  intro z bl hz hrow hcan h'
  obtain ⟨H',h1,h2⟩:=dH h'
  obtain ⟨i,zv,hi,hzv,hvr,hone⟩:=mS hz
  refine ⟨_,_,fq.of_run hnd λbase w0 rho w a hp ho=>?_,h1⟩
  obtain ⟨rho',p1,p2,p3⟩:=hp.fresh (w':=w.alloc (.cells zv.cells t)) h2 hrow hcan (ju.exact (hvr _) hone) ⟨rfl,rfl,rfl⟩ rfl
  refine ⟨.pointer (some ⟨w.heap.size,0,none⟩),w.alloc (.cells zv.cells t),?_,rho',by simp only [VR];simp_all,p1,p2⟩
  simp [execOp,hop,Instr.alloc,zeroValue,typeInfo,hi,hzv,newVar,newRow]
 split at h
 .rename_i z n el hz hu
  split at h
  .rename_i hc
   simp only [Yz,beq_iff_eq]at hc
   have hzz:=MI hc.1
   rw [hc.2]at hzz
   exact key z (.bytes n 0) hz (by rw [hzz];rfl) (λlen m e=>by grind) h
  .exact key z (.cells z) hz rfl (λlen m e=>by cases e) h
 .exact key _ (.cells _) (by omega) rfl (λlen m e=>by cases e) h
 .exact (av h).elim
theorem pV {x} {f} (h:dO id x f=1):∃ l,f l=1/\∀ (m) (c),VR m x c->cm m l c.cells.toList:=by
 rcases OG h with ⟨l,rfl,h1⟩|⟨h1,h2⟩
 .exact ⟨l,h1,λm c hv=>by obtain ⟨cs,rfl,hr⟩:=hv;exact hr⟩
 .refine ⟨[x],h2,λm c hv=>?_⟩
  have:=hv.one h1
  have hc:c.cells = #[c]:=by
   cases c<;>first|rfl|simp_all|rfl
  simp only [cm]
  simp_all
theorem aeO {t} {x} (hop:o.op = .box t x) (h:aL (ai P nt o) id ph e H k=1):Good P nt o e H k:=by
 simp only [ai,hop]at h
 have mem:x ∈ o.op.operands:=by simp [hop,Op.operands]
 have hnd:∀ c,o.op ≠ .defer c:=by simp_all
 split at h
 .rename_i x' hx
  have h':Ra x' id ph e H k=1:=h
  unfold Ra at h'
  rw [aq]at h'
  obtain ⟨l,h1,h2⟩:=pV h'
  obtain ⟨h3,h4⟩:=ft h1
  obtain ⟨H',h5,h6⟩:=dH h4
  refine ⟨_,_,fq.of_run hnd λbase w0 rho w a hp ho=>?_,h5⟩
  obtain ⟨rho',p1,p2,p3⟩:=hp.fresh (w':=w.alloc (.cells (a.eval x).cells t)) h6 rfl (λlen m e=>by cases e) (ju.exact (h2 _ _ (ho x mem x' hx)) h3) ⟨rfl,rfl,rfl⟩ rfl
  exact ⟨.pointer (some ⟨w.heap.size,0,none⟩),w.alloc (.cells (a.eval x).cells t),by simp [execOp,hop,Instr.box,newVar,newRow],rho',by simp only [VR];simp_all,p1,p2⟩
 .exact (av h).elim
theorem kg {t} {b} (h:lN P t=some b) (w):(isAgg t).run P w = .ok b w:=by
 unfold lN at h
 split at h
 .rename_i hu;cases h;simp [isAgg,run_underlying hu]
 .rename_i hu;cases h;simp [isAgg,run_underlying hu]
 .rename_i d h1 h2 hu
  cases h
  simp only [isAgg,Sem.run_bind,run_underlying hu,Result.andThen_ok]
  rfl
 simp_all
theorem abi {t} {x} (hop:o.op = .load t x) (h:aL (ai P nt o) id ph e H k=1):Good P nt o e H k:=by
 simp only [ai,hop]at h
 have mem:x ∈ o.op.operands:=by simp [hop,Op.operands]
 have hnd:∀ c,o.op ≠ .defer c:=by simp_all
 split at h
 .rename_i x' n hx hag hsz
  have h':ri n x' id ph e H k=1:=h
  unfold ri at h'
  rw [aq]at h'
  obtain ⟨b,off,hb,h1⟩:=fU h'
  obtain ⟨row,h2,h3,h30,h4⟩:=KI h1
  refine ⟨_,_,fq.of_run hnd λbase w0 rho w a hp ho=>?_,h4⟩
  have vx:=ho x mem x' hx
  rw [hb]at vx
  obtain ⟨c,hc,hm⟩:=vx
  obtain ⟨cs,g1,g2,g3,_⟩:=hp.KH (hp.yC hm h2) h2 h3 h30
  exact ⟨.agg cs.toArray,w,by simp [execOp,hop,hc,Instr.loadAt,Instr.sureAddr,loadVar,kg hag,cK hsz,g1],rho,by simp only [VR];simp_all,hp,Ext.refl hp.lt⟩
 .rename_i _ x' hx hag
  have h':rh x' id ph e H k=1:=h
  unfold rh at h'
  rw [aq]at h'
  obtain ⟨b,off,hb,h1⟩:=fU h'
  obtain ⟨row,v,h2,h3,h30,h4⟩:=Th h1
  refine ⟨_,_,fq.of_run hnd λbase w0 rho w a hp ho=>?_,h4⟩
  have vx:=ho x mem x' hx
  rw [hb]at vx
  obtain ⟨c,hc,hm⟩:=vx
  obtain ⟨cv,g1,g2,_⟩:=hp.Tg (hp.yC hm h2) h2 h3 h30
  exact ⟨cv,w,by simp [execOp,hop,hc,Instr.loadAt,Instr.sureAddr,loadVar,kg hag,g1],rho,g2,hp,Ext.refl hp.lt⟩
 .exact (av h).elim
end
end Go.Ev
end
section
namespace Go.Ev
open Go.RowKit
section
variable {P:Program} {nt:Nat} {o:Oper} {id:Nat} {ph:cU} {e:Env} {H:Heap} {k:K}
theorem lG {b off} {m} {f} (h:eJ id H b off m f=1):∃ H',f H'=1/\∀ {base} {w0 w} {rho} {c} {ms},PR P base w0 rho H w->(mu rho H w).b b c->(∀ v ∈ m,v.one=true)->cm (mu rho H w) m ms->
 ∃ w',(storeCells ⟨c,off,none⟩ ms 0).run P w = .ok () w'/\PR P base w0 rho H' w'/\Ext rho H w rho H' w':=by
 have h0:=h
 unfold eJ at h
 rw [aV]at h
 rcases mV h with ⟨l,hb,h2⟩|⟨len,x,hb,h2⟩
 .obtain ⟨_,h2⟩:=ft h2
  obtain ⟨h3,h4⟩:=yH h2
  obtain ⟨H',h5,h6⟩:=ib h4
  refine ⟨H',h5,λ{base w0 w rho c ms} hp hm hone hv=>?_⟩
  have hms:=Dp hv hone
  have hrow:rowOf (H.get b)=some l:=by rw [hb];rfl
  have hr:=hp.lX hm hrow
  obtain ⟨cs,el,fr,h7,h8⟩:=hp.row hr hrow
  have hle:=h8.le
  obtain ⟨w',cur',g1,g2,g3,g4,g5,g6,g7⟩:=ij (P:=P) (o:=off) ms 0 cs w h7 (by rw [hv.length];omega) hms h8.2
  obtain ⟨p1,p2⟩:=hp.write hr (by simp_all) h6.n h6.bz h6.wb h6.get h6.vU trivial g7 g6 g2 g5 ⟨cur',el,fr,rfl,h8.TJ hv hone h3 g3 g4,by rw [g3];exact hp.aeJ hr hb h7⟩ (λcs2 e2 fr2 h=>by simp_all) (λr h=>by simp_all)
  simp_all
 .obtain ⟨mx,h3,h30,h4⟩:=pP h2
  obtain ⟨h5,h6⟩:=aQ h3
  rw [aw]at h6
  obtain ⟨H',h7,h8⟩:=ib h6
  refine ⟨H',h7,λ{base w0 w rho c ms} hp hm hone hv=>?_⟩
  have hms:=Dp hv hone
  obtain ⟨h9,h10⟩:=h4 hv.small
  have hle:off+m.length<=len:=cA h5
  have hrow:rowOf (H.get b)=some ((aB len x).map eN):=by rw [hb];rfl
  have hr:=hp.lX hm hrow
  obtain ⟨o,q1,q2⟩:=hp.db b c hr
  rw [hb]at q2
  obtain ⟨_,_,_,_,⟨hx,_⟩,_⟩:=q2
  obtain ⟨cs,el,fr,g7,g8⟩:=hp.row hr hrow
  have hle':=g8.le
  simp only [Ys,aK]at hle'
  obtain ⟨w',cur',g1,g2,g3,g4,g5,g6,g9⟩:=ij (P:=P) (o:=off) ms 0 cs w g7 (by rw [hv.length];omega) hms g8.2
  have hR:=g8.TJ hv hone (by simpa [aK] using hle) g3 g4
  obtain ⟨s1,s2⟩:=zK hx h10 hle
  have hnew:((aB len x).map eN).take off ++ (m ++ ((aB len x).map eN).drop (off+m.length))=(aB len (Yd (Yq x (Nat.pow 256 off)) (Yt (Yd mx (Yt (WC x (Yj 8 (Yd off m.length))) (Yj 8 m.length))) (Yj 8 off)))).map eN:=by
   rw [s1]
   simp only [WB,Qu,List.map_drop]
   rw [<- h9]
  rw [hnew]at hR
  obtain ⟨p1,p2⟩:=hp.write hr (by grind) h8.n h8.bz h8.wb h8.get h8.vU trivial g9 g6 g2 g5
   ⟨cur',el,fr,rfl,⟨s2,λi y hy=>by
    obtain ⟨_,cv,t1,t2⟩:=hR.1 i (eN y) (by grind)
    rw [t1,t2.Vo.2]⟩,hR.2⟩ (λcs2 e2 fr2 h=>by grind) (λr h=>by grind)
  grind
theorem Xj {t} {x y} (hop:o.op = .store t x y) (h:aL (ai P nt o) id ph e H k=1):Good P nt o e H k:=by
 simp only [ai,hop]at h
 have mem:x ∈ o.op.operands/\y ∈ o.op.operands:=by simp [hop,Op.operands]
 have hnd:∀ c,o.op ≠ .defer c:=by simp [hop]
 split at h
 .rename_i x' y' n hx hy hag hsz
  have h':vJ n x' y' id ph e H k=1:=h
  unfold vJ at h'
  rw [aq]at h'
  obtain ⟨b,off,hb,h1⟩:=fU h'
  rw [aq]at h1
  obtain ⟨l,hl,h2⟩:=qA h1
  obtain ⟨h3,h4⟩:=aQ h2
  have hlen:=cI h3
  rw [jR]at hlen
  obtain ⟨H',h5,h6⟩:=lG h4
  refine ⟨_,_,fq.Cz hnd λbase w0 rho w a hp ho=>?_,h5⟩
  have vx:=ho x mem.1 x' hx
  rw [hb]at vx
  obtain ⟨c,hc,hm⟩:=vx
  have vy:=ho y mem.2 y' hy
  rw [hl]at vy
  obtain ⟨cs,hcs,hr⟩:=vy
  have hone:=yJ h4
  obtain ⟨w',g1,g2,g3⟩:=h6 hp hm hone hr
  refine ⟨w',?_,rho,g2,g3⟩
  have hcl:cs.size=n:=by have:=hr.length;simp_all
  simp [execOp,hop,hc,hcs,Instr.storeAt,Instr.sureAddr,storeVar,Value.cells,cK hsz,hcl,g1]
 .rename_i x' y' hx hy hag hsz
  have h':vH x' y' id ph e H k=1:=h
  unfold vH at h'
  rw [aq]at h'
  obtain ⟨b,off,hb,h1⟩:=fU h'
  rw [aq]at h1
  obtain ⟨hone1,h4⟩:=xP h1
  obtain ⟨H',h5,h6⟩:=lG h4
  refine ⟨_,_,fq.Cz hnd λbase w0 rho w a hp ho=>?_,h5⟩
  have vx:=ho x mem.1 x' hx
  rw [hb]at vx
  obtain ⟨c,hc,hm⟩:=vx
  have vy:=ho y mem.2 y' hy
  have hcl:(a.eval y).cells = #[a.eval y]:=by
   have:=vy.one hone1
   generalize a.eval y=q at this
   cases q<;>first|rfl|simp_all|omega
  obtain ⟨w',g1,g2,g3⟩:=h6 (ms:=[a.eval y]) hp hm (λv hv=>by simp_all) (by simp only [cm];simp_all)
  refine ⟨w',?_,rho,g2,g3⟩
  simp [execOp,hop,hc,Instr.storeAt,Instr.sureAddr,storeVar,hcl,cK hsz,g1]
 .exact (av h).elim
end
end Go.Ev
end
section
namespace Go.Ev
open Go.RowKit
section
variable {P:Program} {nt:Nat} {o:Oper} {id:Nat} {ph:cU} {e:Env} {H:Heap} {k:K}
theorem FO:∀ (l:List Value) (j) (off) (cells:Array Value),off+j+l.length<=cells.size->((l.zipIdx j).foldl (λcs (p:Value × Nat)=>cs.setIfInBounds (off+p.2) p.1) cells).size=cells.size/\
 ∀ i:Nat,((l.zipIdx j).foldl (λcs (p:Value × Nat)=>cs.setIfInBounds (off+p.2) p.1) cells)[i]? = if off+j<=i/\i<off+j+l.length then l[i-(off+j)]? else cells[i]?
 | [],j,off,cells,_=>⟨rfl,λi=>by rw [if_neg (by simp)];rfl⟩
 | v :: l,j,off,cells,h=>by
  simp only [YH]at h
  obtain ⟨h1,h2⟩:=FO l (j+1) off (cells.setIfInBounds (off+j) v) (by simp;omega)
  simp only [List.zipIdx_cons,Qa,YH]
  grind
theorem Lq {m} {z l} {cs cs':Array Value} {vs} {off} (hz:cm m z cs.toList) (hl:cm m l vs) (hle:off+l.length<=z.length) (hsz:cs'.size=cs.size)
 (hg:∀ i:Nat,cs'[i]? = if off+0<=i/\i<off+0+vs.length then vs[i-(off+0)]? else cs[i]?):cm m (z.take off ++ (l ++ z.drop (off+l.length))) cs'.toList:=by
 have e1:=hz.length
 have e2:=hl.length
 simp at e1
 refine cm.pO (by simp;omega) λi v c h1 h2=>?_
 rw [Yw,hg]at h2
 by_cases hi1:i<off
 .rw [Yp (by simp;omega),List.getElem?_take,if_pos hi1]at h1
  rw [if_neg (by omega)]at h2
  obtain ⟨c',h3,h4⟩:=hz.get h1
  simp_all
 .rw [Ym (by simp;omega),show (z.take off).length=off by simp;omega]at h1
  by_cases hi2:i-off<l.length
  .rw [Yp hi2]at h1
   rw [if_pos (by omega)]at h2
   obtain ⟨c',h3,h4⟩:=hl.get h1
   simp_all
  .rw [Ym (by omega),List.getElem?_drop,show off+l.length+(i-off-l.length)=i by omega]at h1
   obtain ⟨c',h3,h4⟩:=hz.get h1
   simp_all
inductive mT (m:M) (e:Env) (place:Nat->Option (Nat × Nat)):List (Nat × Nat × Arg)->List (Nat × Value)->Prop
 | nil:mT m e place [] []
 | cons {off size i:Nat} {a:Arg} {v:Value} {l r} (h1:place i=some (off,size)) (h2:VR m (ay a e) v) (h:mT m e place l r):mT m e place ((off,size,a):: l) ((i,v):: r)
theorem xH:∀ {parts} {z} {f},kJ id e parts z f=1->∃ z',f z'=1/\z'.length=z.length/\∀ (m) (place) (cp) (cs),mT m e place parts cp->cm m z cs.toList->
 ∃ cs',Instr.fill place cs cp=some cs'/\cm m z' cs'.toList
 | [],z,f,h=>⟨z,h,rfl,λm place cp cs hp hz=>by cases hp;exact ⟨cs,rfl,hz⟩⟩
 | (off,size,a):: parts,z,f,h=>by
  have h':aG a e (λv=>dO id v λl=>aF (YM (fD l) size) (setAt id l z off λz'=>kJ id e parts z' f) (no _))=1:=h
  rw [aq]at h'
  obtain ⟨l,h1,h2⟩:=pV h'
  obtain ⟨h3,h4⟩:=aQ h1
  have hlen:=cI h3
  rw [jR]at hlen
  obtain ⟨h5,h6⟩:=yH h4
  obtain ⟨z',h7,h70,h8⟩:=xH h6
  refine ⟨z',h7,h70.trans (by simp;omega),λm place cp cs hp hz=>?_⟩
  cases hp with
  | cons p1 p2 p3=>
   rename_i i v r
   have hvr:=h2 m v p2
   have hl2:=hvr.length
   have hz2:=hz.length
   obtain ⟨g1,g2⟩:=FO v.cells.toList 0 off cs (by simp_all)
   obtain ⟨cs',q1,q2⟩:=h8 m place r _ p3 (Lq hz hvr h5 g1 (by omega))
   refine ⟨cs',?_,q2⟩
   simp only [Instr.fill,p1]
   rw [if_neg (by simp_all)]
   rw [<- q1]
   rw [<- Array.foldl_toList,Array.toList_zipIdx]
theorem BT {m} {ac:Act}:∀ {l} {r},ek nt l=some r->(∀ p ∈ l,∀ ar,aH nt p.2=some ar->VR m (ay ar e) (ac.eval p.2))->
 r.length=l.length/\∀ i (h1) (h2:i<r.length),r[i].1=l[i].1/\VR m (ay r[i].2 e) (ac.eval l[i].2)
 | [],r,h,_=>by simp only [ek,Option.some.injEq]at h;simp_all
 | (j,x):: l,r,h,ho=>by
  simp only [ek]at h
  split at h
  .rename_i a r' h1 h2
   obtain ⟨h3,h4⟩:=BT h2 λp hp=>ho p (YI _ hp)
   grind
  simp_all
theorem rA {m} {ac:Act} {s}:∀ {l} {r},ek nt l=some r->(∀ p ∈ l,∀ ar,aH nt p.2=some ar->VR m (ay ar e) (ac.eval p.2))->
 mT m e (λi=>some (i*s,s)) (qg s r) (l.map λp=>(p.1,ac.eval p.2))
 | [],r,h,_=>by simp only [ek,Option.some.injEq]at h;subst h;exact .nil
 | (j,x):: l,r,h,ho=>by
  simp only [ek]at h
  split at h
  .rename_i a r' h1 h2
   cases h
   exact .cons rfl (ho (j,x) (YJ ..) a h1) (rA h2 λp hp=>ho p (YI _ hp))
  simp_all
theorem uN {m} {ac:Act} {pl}:∀ {l} {r} {q},ek nt l=some r->kH pl r=some q->(∀ p ∈ l,∀ ar,aH nt p.2=some ar->VR m (ay ar e) (ac.eval p.2))->
 mT m e (pl.toArray[·]?) q (l.map λp=>(p.1,ac.eval p.2))
 | [],r,q,h,hq,_=>by simp only [ek,Option.some.injEq]at h;subst h;simp only [kH,Option.some.injEq]at hq;subst hq;exact .nil
 | (j,x):: l,r,q,h,hq,ho=>by
  simp only [ek]at h
  split at h
  .rename_i a r' h1 h2
   cases h
   simp only [kH]at hq
   split at hq
   .rename_i p q' h3 h4
    cases hq
    exact .cons (by simp_all) (ho (j,x) (YJ ..) a h1) (uN h2 h4 λp hp=>ho p (YI _ hp))
   simp_all
  simp_all
theorem Xf {t} {parts} (hop:o.op = .build t parts) (h:aL (ai P nt o) id ph e H k=1):Good P nt o e H k:=by
 simp only [ai,hop]at h
 have hnd:∀ c,o.op ≠ .defer c:=by simp_all
 have hmem:∀ p ∈ parts.toList,p.2 ∈ o.op.operands:=λp hp=>by simp [hop,Op.operands];grind
 have key:∀ (z) (q) (place),qU P t=some z->(∀ (m) (ac),OR m nt e ac o->mT m e place q (parts.toList.map λp=>(p.1,ac.eval p.2)))->
  (∀ (i) (zv),P.info? t=some i->i.zero=some zv->∀ l,P.built t l=Instr.fill place zv.cells l)->Rb z q id ph e H k=1->Good P nt o e H k:=by
  intro z q place hz hpo hb h'
  obtain ⟨z',h1,_,h2⟩:=xH h'
  obtain ⟨i,zv,hi,hzv,hvr,_⟩:=mS hz
  refine ⟨_,_,fq.bH hnd λm w ac ho=>?_,h1⟩
  obtain ⟨cs',h3,h4⟩:=h2 m place _ _ (hpo m ac ho) (hvr m)
  refine ⟨.agg cs',?_,by simp only [VR];simp_all⟩
  have:=run_build (P:=P) w t (parts.map λ(i,x)=>(i,ac.eval x)) cs' (by simp_all)
  simp [execOp,hop,this]
 split at h
 .rename_i z ps fs hz hps hu
  split at h
  .rename_i pl hpl
   split at h
   .rename_i q hq
    exact key z q (pl.toArray[·]?) hz (λm ac ho=>uN hps hq λp hp=>ho p.2 (hmem p hp)) (λi zv hi hzv l=>by
     unfold Mw at hpl
     simp [Program.built,hi,hu,hzv,hpl]) h
   .exact (av h).elim
  .exact (av h).elim
 .rename_i z ps n el hz hps hu
  split at h
  .rename_i s hs
   simp only [qI,Ye]at hs
   obtain ⟨ti,hti,hsz⟩:=hs
   exact key z _ (λi=>some (i*s,s)) hz (λm ac ho=>rA hps λp hp=>ho p.2 (hmem p hp)) (λi zv hi hzv l=>by simp [Program.built,hi,hu,hzv,hti,hsz]) h
  .exact (av h).elim
 .exact (av h).elim
theorem AY {z}:∀ {c i} {v},(ig c z)[i]? = some v->z[i%z.length]? = some v/\i<c*z.length
 | 0,i,v,h=>by simp [ig]at h
 | c+1,i,v,h=>by
  simp only [ig]at h
  by_cases hi:i<z.length
  .rw [Yp hi]at h
   exact ⟨by rw [Nat.mod_eq_of_lt hi];omega,by grind⟩
  .rw [Ym (by omega)]at h
   obtain ⟨h1,h2⟩:=AY h
   refine ⟨?_,by grind⟩
   rw [Nat.mod_eq_sub_mod (by omega)]
   omega
theorem sP {z}:∀ c:Nat,(ig c z).length=c*z.length
 | 0=>by simp [ig]
 | c+1=>by simp [ig,sP c,Nat.succ_mul];omega
theorem GO {m} {z} {zc} (hz:cm m z zc.toList) (c):cm m (ig c z) (madeCells zc (c*z.length)).toList:=by
 have hl:=hz.length
 refine cm.pO (by simp [sP,size_madeCells]) λi v cv h1 h2=>?_
 obtain ⟨h3,h4⟩:=AY h1
 obtain ⟨c',h5,h6⟩:=hz.get h3
 have hlt:i%z.length<zc.size:=by
  grind
 have h7:(madeCells zc (c*z.length))[i]? = some (zc[i%zc.size]!):=by
  simp [madeCells,h4]
 simp_all
theorem CW {t:TypeId} {len:Nat} {parts:Array (Nat × Operand)} (hop:o.op = .buildSlice t len parts) (h:aL (ai P nt o) id ph e H k=1):Good P nt o e H k:=by
 simp only [ai,hop]at h
 have hnd:∀ c,o.op ≠ .defer c:=by simp [hop]
 have hmem:∀ p ∈ parts.toList,p.2 ∈ o.op.operands:=λp hp=>by simp [hop,Op.operands];grind
 split at h
 .rename_i ps el hps hu
  split at h
  .rename_i s z hs hz
   split at h
   .rename_i hc
    simp only [Yz,beq_iff_eq,decide_eq_true_eq]at hc
    obtain ⟨hc1,hc2⟩:=hc
    have h':B7 (Gw P el && decide (0<len)) len (ig len z) (qg s ps) id ph e H k=1:=h
    unfold B7 at h'
    obtain ⟨z',h1,hzl,h2⟩:=xH h'
    obtain ⟨i,zv,hi,hzv,hvr,hone⟩:=mS hz
    simp only [qI,Ye]at hs
    obtain ⟨ti,hti,hsz⟩:=hs
    rw [hi]at hti
    cases hti
    have hrun:∀ (w:World) (cs':Array Value) (ac:Act),Instr.fill (λi=>some (i*s,s)) (madeCells zv.cells (len*s)) (parts.toList.map λp=>(p.1,ac.eval p.2))=some cs'->
     (execOp ac.eval o).run P w = .ok (.value (.slice (some ⟨w.heap.size,0,none⟩) len len)) (w.alloc (.cells cs' el)):=by
     intro w cs' ac hf
     have hsz':(sizeOf el).run P w = .ok s w:=by simp [sizeOf,typeInfo,hi,hsz]
     have hzr:(zeroValue el).run P w = .ok zv w:=by simp [zeroValue,typeInfo,hi,hzv]
     have hbig:¬ (2 ^ 24<len*s):=by omega
     by_cases h0:len*s=0
     .have hm0:madeCells zv.cells (len*s) = #[]:=by rw [h0];simp [madeCells,Array.range_zero']
      rw [hm0]at hf
      simp [execOp,hop,Instr.buildSlice,run_underlying hu,hsz',h0,hf,newRow,Array.range_zero']
     .have hf':Instr.fill (λi=>some (i*s,s)) ((Array.range (len*s)).map (λx=>zv.cells[x%zv.cells.size]!)) (parts.toList.map λp=>(p.1,ac.eval p.2))=some cs':=hf
      simp [execOp,hop,Instr.buildSlice,run_underlying hu,hsz',hzr,hbig,h0,hf',newRow]
    have fin:∀ (bl:eK) (H':Heap),oE H bl H'->k (.slice H.n 0 len (WN len) 0) H'=1->(∀ m,cm m z' []->False)\/True->(∀ (m:M) (cs':Array Value),cm m z' cs'.toList->rowOf bl=some z'/\(∀ ln n,bl = .bytes ln n->n<256 ^ ln)/\∀ v ∈ z',v.one=true)->Good P nt o e H k:=by
     intro bl H' hN hk _ hrow
     refine ⟨_,_,fq.of_run hnd λbase w0 rho w a hp ho=>?_,hk⟩
     have hmv:=GO (hvr (mu rho H w)) len
     rw [hc2]at hmv
     obtain ⟨cs',h3,h4⟩:=h2 (mu rho H w) (λi=>some (i*s,s)) _ _ (rA hps λp hp'=>ho p.2 (hmem p hp')) hmv
     obtain ⟨r1,r2,r3⟩:=hrow _ cs' h4
     obtain ⟨rho',p1,p2,p3⟩:=hp.fresh (w':=w.alloc (.cells cs' el)) (t:=el) hN r1 r2 (ju.exact h4 r3) ⟨rfl,rfl,rfl⟩ rfl
     exact ⟨_,_,hrun w cs' a h3,rho',by simp only [VR];grind,p1,p2⟩
    rcases bP h1 with ⟨h3,h4⟩|⟨h3,h4⟩
    .obtain ⟨n,h5,h6,h7⟩:=pP h4
     obtain ⟨H',h8,h9⟩:=dH h5
     refine fin _ H' h9 h8 (YE trivial) λm cs' hm=>?_
     obtain ⟨g1,g2⟩:=h7 hm.small
     exact ⟨by simp only [rowOf];rw [<- g1],λln n' e=>by grind,λv hv=>by obtain ⟨x,rfl⟩:=h6 v hv;rfl⟩
    .obtain ⟨h5,h6⟩:=ft h4
     obtain ⟨H',h8,h9⟩:=dH h6
     exact fin _ H' h9 h8 (YE trivial) λm cs' hm=>⟨rfl,λln n' e=>(by cases e),h5⟩
   .exact (av h).elim
  .exact (av h).elim
 .exact (av h).elim
theorem HN {t} {l c} (hop:o.op = .makeSlice t l c) (h:aL (ai P nt o) id ph e H k=1):Good P nt o e H k:=by
 simp only [ai,hop]at h
 have hnd:∀ c,o.op ≠ .defer c:=by simp_all
 have mem:l ∈ o.op.operands/\c ∈ o.op.operands:=by simp [hop,Op.operands]
 split at h
 .rename_i l' c' el hl hc hu
  split at h
  .rename_i z s i hz hs hi
   split at h
   .rename_i hcond
    simp only [Yz,beq_iff_eq,decide_eq_true_eq]at hcond
    obtain ⟨⟨hzs,hs0⟩,hby⟩:=hcond
    have h':xx (z8 z && s == 1) z l' c' id ph e H k=1:=h
    unfold xx at h'
    rw [aq]at h'
    obtain ⟨kl,ln,hln,h1⟩:=dK h'
    rw [aq]at h1
    obtain ⟨kc,cn,hcn,h2⟩:=dK h1
    obtain ⟨h3,h4⟩:=aQ h2
    obtain ⟨h5,h6⟩:=aQ h4
    obtain ⟨h7,h8⟩:=aQ h6
    obtain ⟨h9,h10⟩:=aQ h8
    have hle:=cA h7
    have hcs:=cA h9
    obtain ⟨i',zv,hi',hzv,hvr,hone⟩:=mS hz
    rw [hi]at hi'
    cases hi'
    have hsz:=by simpa [qI,hi] using hs
    have fin:∀ (bl) (H'),oE H bl H'->k (.slice H.n 0 ln (WN cn) 0) H'=1->rowOf bl=some (ig cn z)->(∀ ln n,bl = .bytes ln n->n<256 ^ ln)->(∀ v ∈ ig cn z,v.one=true)->Good P nt o e H k:=by
     intro bl H' hN hk r1 r2 r3
     refine ⟨_,_,fq.of_run hnd λbase w0 rho w a hp ho=>?_,hk⟩
     have vl:=ho l mem.1 l' hl
     have vc:=ho c mem.2 c' hc
     rw [hln]at vl
     rw [hcn]at vc
     simp only [VR]at vl vc
     have hmv:=GO (hvr (mu rho H w)) cn
     rw [hzs]at hmv
     obtain ⟨rho',p1,p2,p3⟩:=hp.fresh (w':=w.alloc (.cells (madeCells zv.cells (cn*s)) el)) hN r1 r2 (ju.exact hmv r3) ⟨rfl,rfl,rfl⟩ rfl
     refine ⟨.slice (some ⟨w.heap.size,0,none⟩) ln cn,w.alloc (.cells (madeCells zv.cells (cn*s)) el),?_,rho',by simp only [VR];grind,p1,p2⟩
     have hm:=run_make w t el i zv hu hi hzv (pC kl) (pC kc) (ln:Int) (cn:Int) (by omega) (by omega) (by
      have:=YP2 hby hcs
      omega) (by omega)
     rw [toI_64 (cA h3) vl.2.2 (by omega) vl.2.1]at vl
     rw [toI_64 (cA h5) vc.2.2 (by omega) vc.2.1]at vc
     simp only [Int.toNat_natCast,hsz]at hm
     simp [execOp,hop,vl.1,vc.1,hm]
    rcases bP h10 with ⟨h11,h12⟩|⟨h11,h12⟩
    .obtain ⟨H',h13,h14⟩:=dH h12
     simp only [Yz,beq_iff_eq]at h11
     have hz1:z=[.int 4 0]:=by
      have:=MI h11.1
      rw [hzs,h11.2]at this
      exact this
     have hrep:∀ q,(aB q 0).map eN=ig q z:=by
      intro q
      rw [hz1]
      induction q with
      | zero=>rfl
      | succ q ih=>simp only [aB,YP,ig,List.cons_append,YK,<- ih];rfl
     exact fin _ H' h14 h13 (by simp only [rowOf];simp_all) (λln n e=>by grind) (λv hv=>by rw [<- hrep]at hv;obtain ⟨y,_,rfl⟩:=Yi.1 hv;rfl)
    .rw [CU]at h12
     obtain ⟨h13,h14⟩:=ft h12
     obtain ⟨H',h15,h16⟩:=dH h14
     exact fin _ H' h16 h15 rfl (λln n e=>by cases e) h13
   .exact (av h).elim
  .exact (av h).elim
 .exact (av h).elim
end
end Go.Ev
end
section
namespace Go.Ev
open Go.RowKit
section
variable {P:Program} {nt:Nat} {o:Oper} {id:Nat} {ph:cU} {e:Env} {H:Heap} {k:K}
theorem Ju (k k') (a) (ha:a<eg k) (hc:¬ (k.signed=true/\k.bits<k'.bits)):k'.wrap (toI k a)=toI k' (a%2 ^ k'.bits):=by
 show k'.wrap (k.wrap (a:Int))=k'.wrap ((a%2 ^ k'.bits:Nat):Int)
 unfold eg at ha
 cases k<;>cases k'<;>simp [IntKind.wrap,IntKind.bits,IntKind.signed]at * <;> (omega)<;>omega
theorem M9 (k k':IntKind) (a:Nat) (ha:a<eg k) (hc:k.signed=true/\k.bits<k'.bits):k'.wrap (toI k a)=toI k' (if a<2 ^ (k.bits-1) then a else a+(2 ^ k'.bits-2 ^ k.bits))/\(if a<2 ^ (k.bits-1) then a else a+(2 ^ k'.bits-2 ^ k.bits))<eg k':=by
 unfold eg at ha ⊢
 by_cases hlt:a<2 ^ (k.bits-1)
 .rw [if_pos hlt]
  constructor
  .show k'.wrap (k.wrap (a:Int))=k'.wrap (a:Int)
   apply rM
   cases k<;>cases k'<;>simp [IntKind.wrap,IntKind.bits,IntKind.signed]at * <;> (try split)<;>omega
  .cases k<;>cases k'<;>simp [IntKind.bits,IntKind.signed]at * <;> omega
 .rw [if_neg hlt]
  constructor
  .show k'.wrap (k.wrap (a:Int))=k'.wrap ((a+(2 ^ k'.bits-2 ^ k.bits):Nat):Int)
   apply rM
   cases k<;>cases k'<;>simp [IntKind.wrap,IntKind.bits,IntKind.signed]at * <;> (try split)<;>omega
  .cases k<;>cases k'<;>simp [IntKind.bits,IntKind.signed]at * <;> omega
theorem yu:∀ (ns:List Int) (s:ByteArray),(ns.foldl (λr n=>r.push (UInt8.ofNat n.toNat)) s).data.toList=s.data.toList ++ ns.map λn=>UInt8.ofNat n.toNat
 | [],s=>by simp
 | n :: ns,s=>by rw [Qa,yu ns];simp
theorem Bj {m}:∀ {l:List UInt8} {cs},cm m (l.map eN) cs->cs=(l.map λx=>(x.toNat:Int)).map (Value.int .u8)
 | [],cs,h=>by simp only [Yc,cm]at h;simp_all
 | x :: l,cs,h=>by
  obtain ⟨c,r,rfl,h1,h2⟩:=h
  rw [Bj h2]
  congr 1
  exact h1.Vo.2
theorem J4 {b off n} {f} (h:mH id H b off n f=1):∃ x,f x=1/\∀ {base} {w0 w} {rho} {c},PR P base w0 rho H w->(mu rho H w).b b c->
 x<256 ^ n/\(loadCells ⟨c,off,none⟩ n).run P w = .ok (((aB n x).map λy=>(y.toNat:Int)).map (Value.int .u8)).toArray w:=by
 obtain ⟨row,x,h1,h2,h3,h4,h5⟩:=xZ h
 refine ⟨x,h3,λ{base w0 w rho c} hp hm=>?_⟩
 obtain ⟨cs,g1,g2,g3⟩:=hp.cells (hp.lX hm h1) h1 h2
 obtain ⟨h6,h7⟩:=h5 g2.small
 have hl:((row.drop off).take n).length=n:=by simp;omega
 rw [hl]at h6 h7
 rw [h6]at g2
 refine ⟨h7,?_⟩
 rw [g1,Bj g2]
theorem Df (l x):(((aB l x).map λy=>(y.toNat:Int)).foldl (λr n=>r.push (UInt8.ofNat n.toNat)) ByteArray.empty)=⟨(aB l x).toArray⟩:=by
 apply Go.WideShapes.bytes_inj
 rw [yu]
 have he:(ByteArray.empty).data.toList=[]:=rfl
 rw [he,YK,List.map_map]
 conv=>rhs;rw [<- List.map_id (aB l x)]
 apply List.map_congr_left
 simp
theorem sS {t} {s} {w} (hbig:s.size<=16777216):∃ cap w',(s.size<=cap/\cap<9223372036854775808)/\(Conv.stringToBytes t s).run P w = .ok (.slice (some ⟨w.heap.size,0,none⟩) s.size cap) w'/\IY w w'/\
 w'.heap=w.heap.push (.cells (s.data.map (λb=>Value.int .u8 b.toNat) ++ Qb (cap-s.size) (Value.int .u8 0)) t (cap,cap+1)):=by
 refine ⟨(Question.appendCap s.size 0 t).cut (w.tape w.drawn (.appendCap s.size 0 t)),?_⟩
 have hle:s.size<=(Question.appendCap s.size 0 t).cut (w.tape w.drawn (.appendCap s.size 0 t))/\(Question.appendCap s.size 0 t).cut (w.tape w.drawn (.appendCap s.size 0 t))<9223372036854775808:=by
  have hmod:=QG (w.tape w.drawn (.appendCap s.size 0 t)) (show 0<2 ^ 63-s.size by omega)
  simp only [Question.cut]
  omega
 generalize hcap:(Question.appendCap s.size 0 t).cut (w.tape w.drawn (.appendCap s.size 0 t))=cap at hle ⊢
 have hsz:(s.data.map (λb=>Value.int .u8 b.toNat) ++ Qb (cap-s.size) (Value.int .u8 0)).size=cap:=by
  simp_all
 generalize hcs:s.data.map (λb=>Value.int .u8 b.toNat) ++ Qb (cap-s.size) (Value.int .u8 0)=cs at hsz ⊢
 refine ⟨{w with heap:=w.heap.push (.cells cs t (cap,cap+1)),drawn:=w.drawn+1 },hle,?_,⟨rfl,rfl,rfl⟩,rfl⟩
 simp only [Conv.stringToBytes,Sem.run_bind,run_choose,Question.forced,YT,if_false,Result.andThen_ok,hcap,newRow,run_newObj,Sem.run_pure,markStringish,run_shape,hcs]
 have h1:({w with heap:=w.heap.push (.cells cs t),drawn:=w.drawn+1 }:World).shape? w.heap.size=some (t,cap):=by
  simp [World.shape?,hsz]
 have h2:({w with heap:=w.heap.push (.cells cs t),drawn:=w.drawn+1 }:World).freeze ⟨w.heap.size,cap,none⟩ 1={w with heap:=w.heap.push (.cells cs t (cap,cap+1)),drawn:=w.drawn+1 }:=by
  simp only [World.freeze,Nat.one_ne_zero,if_false]
  congr 1
  grind
 simp_all
theorem Om {src dst:TypeId} {x:Operand} (hop:o.op = .convert src dst x) (h:aL (ai P nt o) id ph e H k=1):Good P nt o e H k:=by
 simp only [ai,hop]at h
 have mem:x ∈ o.op.operands:=by simp [hop,Op.operands]
 have hnd:∀ c,o.op ≠ .defer c:=by simp [hop]
 split at h
 .rename_i x' kx kd hx hs hd
  have key:∀ (mode c:Nat),JC (lT kx) (lT kd) mode c x' id ph e H k=1->(∀ a r,a<eg kx->(if mode=0 then a%c else if a<mode then a else a+c)=r->kd.wrap (toI kx a)=toI kd r/\r<eg kd)->Good P nt o e H k:=by
   intro mode c h' hr
   unfold JC at h'
   rw [aq]at h'
   obtain ⟨k1,a,ha,h1⟩:=dK h'
   obtain ⟨h2,h3⟩:=aQ h1
   have:=cI h2
   subst this
   have h4:k (.int (lT kd) (if mode=0 then a%c else if a<mode then a else a+c)) H=1:=by
    cases mode with
    | zero=>
     have h5:au (Yq a c) (λr=>k (.int (lT kd) r) H)=1:=h3
     rw [aw]at h5
     exact h5
    | succ n=>
     have h5:aF (Yx a (n+1)) (k (.int (lT kd) a) H) (au (Yd a c) λr=>k (.int (lT kd) r) H)=1:=h3
     rw [if_neg (by omega)]
     rcases bP h5 with ⟨h6,h7⟩|⟨h6,h7⟩
     .rw [if_pos (eO h6)];exact h7
     .rw [aw]at h7
      rw [if_neg]
      .exact h7
      .intro hlt
       have:Yx a (n+1)=true:=WV hlt
       rw [this]at h6;cases h6
   refine ⟨_,_,fq.bH hnd λm w ac ho=>?_,h4⟩
   have v:=ho x mem x' hx
   rw [ha]at v
   simp only [VR,dI]at v
   obtain ⟨h5,h6⟩:=hr a _ v.2.1 rfl
   refine ⟨.int kd (kd.wrap (toI kx a)),?_,?_⟩
   .simp [execOp,hop,v.1,convert,run_underlying hs,run_underlying hd,Conv.intToInt]
   .rw [h5]
    simp only [VR,dI]
    exact ⟨trivial,h6,xU kd⟩
  unfold tK at h
  split at h
  .rename_i hc
   simp only [Yz,decide_eq_true_eq]at hc
   refine key (2 ^ (kx.bits-1)) (2 ^ kd.bits-2 ^ kx.bits) h λa r ha hr=>?_
   rw [if_neg (by cases kx<;>decide)]at hr
   rw [<- hr]
   exact M9 kx kd a ha hc
  .rename_i hc
   simp only [Yz,decide_eq_true_eq]at hc
   refine key 0 (2 ^ kd.bits) h λa r ha hr=>?_
   rw [if_pos rfl]at hr
   rw [<- hr]
   exact ⟨Ju kx kd a ha hc,QG _ (xT kd)⟩
 .rename_i x' el hx hs hd
  split at h
  .rename_i hu8
   have hel:P.underlying el=some (.int .u8):=by
    unfold Gw at hu8
    split at hu8
    .assumption
    .cases hu8
   have h':xu x' id ph e H k=1:=h
   unfold xu at h'
   rw [aq]at h'
   rcases fP h' with ⟨b,off,l,cp,sz,hb,h1⟩|⟨hb,h1⟩
   .obtain ⟨n,h2,h3⟩:=J4 (P:=P) h1
    refine ⟨_,_,fq.of_run hnd λbase w0 rho w a hp ho=>?_,h2⟩
    have v:=ho x mem x' hx
    rw [hb]at v
    simp only [VR]at v
    obtain ⟨c,cap,o',sp,hc,hm,hle,hcp,ho'⟩:=v
    obtain ⟨h4,h5⟩:=h3 hp hm
    have h5':(loadCells ⟨c,o',sp⟩ l).run P w = .ok (((aB l n).map λy=>(y.toNat:Int)).map (Value.int .u8)).toArray w:=by
     rcases ho' with ⟨rfl,rfl⟩|h6
     .exact h5
     .have:l=0:=by omega
      subst this
      rfl
    refine ⟨.string ⟨(aB l n).toArray⟩,w,?_,rho,by simp only [VR];exact ⟨trivial,h4⟩,hp,Ext.refl hp.lt⟩
    have hr:=run_bytesToString (P:=P) w ⟨c,o',sp⟩ l cap _ h5'
    rw [Df]at hr
    simp only [execOp,hop,hc,Sem.run_bind,run_convert_bytes_string w src dst el (some ⟨c,o',sp⟩) l cap hs hel hd,hr,Result.andThen_ok,Sem.run_pure]
   .refine ⟨_,_,fq.bH hnd λm w ac ho=>?_,h1⟩
    have v:=ho x mem x' hx
    rw [hb]at v
    simp only [VR]at v
    refine ⟨.string ByteArray.empty,?_,by simp only [VR];exact ⟨rfl,by decide⟩⟩
    simp only [execOp,hop,v,Sem.run_bind,run_convert_bytes_string w src dst el none 0 0 hs hel hd,Conv.bytesToString,Sem.run_pure,Result.andThen_ok]
  .exact (av h).elim
 .rename_i x' el hx hs hd
  split at h
  .rename_i hu8
   have hel:P.underlying el=some (.int .u8):=by
    unfold Gw at hu8
    split at hu8
    .assumption
    .cases hu8
   have h':xv x' id ph e H k=1:=h
   unfold xv at h'
   rw [aq]at h'
   obtain ⟨l,n,hb,h1⟩:=eD h'
   obtain ⟨hl,h1⟩:=aQ h1
   obtain ⟨H',h2,h3⟩:=dH h1
   refine ⟨_,_,fq.of_run hnd λbase w0 rho w a hp ho=>?_,h2⟩
   have v:=ho x mem x' hx
   rw [hb]at v
   simp only [VR]at v
   obtain ⟨cap,w',g1,g2,g3,g4⟩:=sS (P:=P) (t:=el) (s:=⟨(aB l n).toArray⟩) (w:=w) (by simp [ByteArray.size,aK];exact cA hl)
   have hsz:(⟨(aB l n).toArray⟩:ByteArray).size=l:=by simp [ByteArray.size,aK]
   rw [hsz]at g1 g2 g4
   have hR:ju (mu rho H w) ((aB l n).map eN) ((⟨(aB l n).toArray⟩:ByteArray).data.map (λb=>Value.int .u8 b.toNat) ++ Qb (cap-l) (Value.int .u8 0)) (cap,cap+1):=by
    refine ⟨λi v hi=>?_,λi hi=>?_⟩
    .rw [Yg,Ye]at hi
     obtain ⟨y,hy,rfl⟩:=hi
     refine ⟨rfl,.int .u8 y.toNat,?_,vD _ y⟩
     grind
    .simp [aK]at hi ⊢
     omega
   obtain ⟨rho',p1,p2,p3⟩:=hp.fresh (w':=w') h3 rfl (λln m' e=>by cases e;exact v.2) hR g3 g4
   refine ⟨.slice (some ⟨w.heap.size,0,none⟩) l cap,w',?_,rho',by simp only [VR];exact ⟨_,_,_,_,rfl,p3,g1.1,⟨λq hq=>absurd hq (by omega),λ_=>YE ⟨⟨_,_,_,by rw [g4,Qv],by have hle:(aB l n).length=l:=aK l n;simp [aK];omega⟩,g1.2⟩⟩,YG ⟨rfl,rfl⟩⟩,p1,p2⟩
   simp [execOp,hop,v.1,convert,run_underlying hs,run_underlying hd,run_underlying hel,g2]
  .exact (av h).elim
 .rename_i x' hx hs hd
  have h':Fy x' (.c (.str 0 0)) id ph e H k=1:=h
  unfold Fy at h'
  rw [aq]at h'
  obtain ⟨l,n,hb,h1⟩:=eD h'
  rw [aq]at h1
  obtain ⟨l2,n2,hb2,h2⟩:=eD h1
  simp only [ay,V.str.injEq]at hb2
  obtain ⟨rfl,rfl⟩:=hb2
  rw [aw]at h2
  obtain ⟨_,h3⟩:=aQ h2
  rw [aw]at h3
  have e1:Yd n (Yt 0 (Yj 8 l))=n:=by
   show n+0 <<< (8*l)=n
   simp
  rw [e1]at h3
  refine ⟨_,_,fq.bH hnd λm w ac ho=>?_,h3⟩
  have v:=ho x mem x' hx
  rw [hb]at v
  simp only [VR]at v
  exact ⟨ac.eval x,by simp [execOp,hop,v.1,convert,run_underlying hs,run_underlying hd],by simp only [VR];exact v⟩
 .exact (av h).elim
end
end Go.Ev
end
section
namespace Go.Ev
open Go.RowKit
section
variable {P:Program} {nt:Nat} {o:Oper} {id:Nat} {ph:cU} {e:Env} {H:Heap} {k:K}
def qL (m:M) (e:Env) (x:Option Arg) (cv:Option Value):Prop:=match x,cv with
 | none,none=>True
 | some a,some c=>VR m (ay a e) c
 | _,_=>False
theorem ie {m} {ac:Act} {x} {x'} (h:Kj nt x=some x') (ho:∀ y,x=some y->∀ ar,aH nt y=some ar->VR m (ay ar e) (ac.eval y)):qL m e x' (x.map ac.eval):=by
 cases x with
 | none=>simp only [Kj,Option.some.injEq]at h;subst h;trivial
 | some y=>
  simp only [Kj,Ye]at h
  obtain ⟨a,h1,rfl⟩:=h
  exact ho y rfl a h1
theorem kA {x} {d} {f} (h:gS id x e d f=1):∃ n,f n=1/\(x=none->n=d)/\∀ (m) (cv),qL m e x cv->x.isSome=true->∃ kd,cv=some (.int kd n):=by
 cases x with
 | none=>exact ⟨d,h,λ_=>rfl,λ_ _ _ h=>by cases h⟩
 | some a=>
  have h':aG a e (λv=>cC id v λkd n=>aF (YX 3 kd) (aF (Yx n 9223372036854775808) (f n) (no _)) (no _))=1:=h
  rw [aq]at h'
  obtain ⟨kd,n,hn,h1⟩:=dK h'
  obtain ⟨h2,h3⟩:=aQ h1
  obtain ⟨h4,h5⟩:=aQ h3
  refine ⟨n,h5,λh=>(by cases h),λm cv hb _=>?_⟩
  cases cv with
  | none=>exact hb.elim
  | some c=>
   have hv:VR m (ay a e) c:=hb
   rw [hn]at hv
   exact ⟨pC kd,by rw [hv.1,toI_64 (cA h2) hv.2.2 (eO h4) hv.2.1]⟩
theorem run_sliceBound {kd} {n y:Nat} {code} {w} (h:n<=y):(Instr.sliceBound (.int kd n) y code).run P w = .ok n w:=by
 simp [Instr.sliceBound,asIntOf,h]
theorem gq {isS} {len cap l h mm:Nat} {m} {lo hi mx} {clo chi cmx} {w} (b1:qL m e lo clo) (b2:qL m e hi chi) (b3:qL m e mx cmx)
 (hlo:lo=none->l=0) (hhi:hi=none->h=len) (hmx:mx=none->mm=cap) (hlo':∀ (m) (cv),qL m e lo cv->lo.isSome=true->∃ kd,cv=some (.int kd l)) (hhi':∀ (m) (cv),qL m e hi cv->hi.isSome=true->∃ kd,cv=some (.int kd h))
 (hmx':∀ (m) (cv),qL m e mx cv->mx.isSome=true->∃ kd,cv=some (.int kd mm)) (hno:hi=none->mx=none) (h1:l<=h) (h2:h<=mm) (h3:mm<=cap):
 (Instr.sliceBounds isS len cap clo chi cmx).run P w = .ok (l,h,mm) w:=by
 cases mx with
 | none=>
  cases cmx with
  | some _=>exact b3.elim
  | none=>
   have:=hmx rfl
   subst this
   cases hi with
   | none=>
    cases chi with
    | some _=>exact b2.elim
    | none=>
     have:=hhi rfl
     subst this
     cases lo with
     | none=>
      cases clo with
      | some _=>exact b1.elim
      | none=>have:=hlo rfl;subst this;rfl
     | some a=>
      obtain ⟨kd,rfl⟩:=hlo' _ _ b1 rfl
      simp [Instr.sliceBounds,run_sliceBound h1]
   | some a2=>
    obtain ⟨kd2,rfl⟩:=hhi' _ _ b2 rfl
    cases lo with
    | none=>
     cases clo with
     | some _=>exact b1.elim
     | none=>have:=hlo rfl;subst this;simp [Instr.sliceBounds,run_sliceBound h2]
    | some a=>
     obtain ⟨kd,rfl⟩:=hlo' _ _ b1 rfl
     simp [Instr.sliceBounds,run_sliceBound h1,run_sliceBound h2]
 | some a3=>
  obtain ⟨kd3,rfl⟩:=hmx' _ _ b3 rfl
  cases hi with
  | none=>simp_all
  | some a2=>
   obtain ⟨kd2,rfl⟩:=hhi' _ _ b2 rfl
   cases lo with
   | none=>
    cases clo with
    | some _=>exact b1.elim
    | none=>have:=hlo rfl;subst this;simp [Instr.sliceBounds,run_sliceBound h2,run_sliceBound h3]
   | some a=>
    obtain ⟨kd,rfl⟩:=hlo' _ _ b1 rfl
    simp [Instr.sliceBounds,run_sliceBound h1,run_sliceBound h2,run_sliceBound h3]
theorem Xi {t:TypeId} {x:Operand} {lo hi mx:Option Operand} (hop:o.op = .slice t x lo hi mx) (h:aL (ai P nt o) id ph e H k=1):Good P nt o e H k:=by
 simp only [ai,hop]at h
 have mem:x ∈ o.op.operands:=by simp [hop,Op.operands]
 have mlo:∀ y,lo=some y->y ∈ o.op.operands:=λy hy=>by subst hy;simp [hop,Op.operands]
 have mhi:∀ y,hi=some y->y ∈ o.op.operands:=λy hy=>by subst hy;simp [hop,Op.operands]
 have mmx:∀ y,mx=some y->y ∈ o.op.operands:=λy hy=>by subst hy;simp [hop,Op.operands]
 have hnd:∀ c,o.op ≠ .defer c:=by simp [hop]
 split at h
 rotate_left
 .exact (av h).elim
 rename_i x' lo' hi' mx' hx hlo hhi hmx
 split at h
 .rename_i hu
  split at h
  .have h':aap x' lo' hi' id ph e H k=1:=h
   unfold aap at h'
   rw [aq]at h'
   obtain ⟨len,n,hb,h1⟩:=eD h'
   obtain ⟨hh,h2,h3,h4⟩:=kA h1
   obtain ⟨ll,h5,h6,h7⟩:=kA h2
   obtain ⟨h8,h9⟩:=aQ h5
   obtain ⟨h10,h11⟩:=aQ h9
   rw [aw,aw]at h11
   have hl:=cA h8
   have hh':=cA h10
   refine ⟨_,_,fq.bH hnd λm w ac ho=>?_,h11⟩
   have v:=ho x mem x' hx
   rw [hb]at v
   simp only [VR]at v
   have sD:mx=none:=by
    cases mx with
    | none=>rfl
    | some y=>simp [Kj]at hmx
   subst sD
   have hsb:=gq (P:=P) (isS:=false) (len:=len) (cap:=len) (l:=ll) (h:=hh) (mm:=len) (w:=w) (mx:=none) (cmx:=none) (ie (m:=m) (ac:=ac) hlo λy hy=>ho y (mlo y hy)) (ie (m:=m) (ac:=ac) hhi λy hy=>ho y (mhi y hy)) trivial h6 h3 (λ_=>rfl) h7 h4 (λ_ _ _ h=>by cases h) (λ_=>rfl) hl hh' (YB _)
   have e1:Yq (WC n (Yj 8 ll)) (Nat.pow 256 (Wn hh ll))=n/256 ^ ll%256 ^ (hh-ll):=by
    show (n >>> (8*ll))%256 ^ (hh-ll)=_
    rw [Nat.shiftRight_eq_div_pow,QS]
   rw [e1]
   refine ⟨.string ⟨(aB (hh-ll) (n/256 ^ ll%256 ^ (hh-ll))).toArray⟩,?_,by simp only [VR];exact ⟨rfl,QG _ (Nat.pow_pos (by decide))⟩⟩
   have hsz:(⟨(aB len n).toArray⟩:ByteArray).size=len:=by simp [ByteArray.size,aK]
   have hex:(⟨(aB len n).toArray⟩:ByteArray).extract ll hh=⟨(aB (hh-ll) (n/256 ^ ll%256 ^ (hh-ll))).toArray⟩:=by
    apply Go.WideShapes.bytes_inj
    rw [ByteArray.data_extract]
    simp only [Array.toList_extract,List.extract_eq_take_drop]
    rw [jo _ _ _ (by omega),jq _ _ _ (by omega)]
    exact nM _ _ _ (by simp)
   simp [execOp,hop,v.1,Instr.sliceAt,Instr.slice,run_underlying hu,hsz,hsb,hex]
  .exact (av h).elim
 .rename_i el hu
  split at h
  .rename_i s hs
   have hfin:aaq s x' lo' hi' mx' id ph e H k=1/\(hi'=none->mx'=none):=by
    split at h
    .exact (av h).elim
    .rename_i hno
     exact ⟨h,λh1=>by
      cases mx' with
      | none=>rfl
      | some a=>exact (hno a h1 rfl).elim⟩
   obtain ⟨h',hno⟩:=hfin
   unfold aaq at h'
   rw [aq]at h'
   rcases fP h' with ⟨b,off,len,cp,sz,hb,h1⟩|⟨hb,h1⟩
   .obtain ⟨ll,h2,h3,h4⟩:=kA h1
    obtain ⟨hh,h5,h6,h7⟩:=kA h2
    obtain ⟨h8,h9⟩:=aQ h5
    have hle:=cA h8
    rw [aw]at h9
    have key:∀ (cp':Nat) (off':Nat) (sz':Nat),k (.slice b off' (hh-ll) cp' sz') H=1->(cp'=0->cp=0/\sz'=sz/\sz=s/\mx'=none)->
     (∀ (c cap o':Nat) (m:M) (cmx:Option Value),qL m e mx' cmx->len<=cap->(∀ q,cp=q+1->cap=q)->(o'=off\/cap=0)->∃ mm,hh<=mm/\mm<=cap/\(mx'=none->mm=cap)/\(∀ (m:M) (cv:Option Value),qL m e mx' cv->mx'.isSome=true->∃ kd,cv=some (.int kd mm))/\
      (∀ q,cp'=q+1->mm-ll=q)/\((if mm=ll then o' else o'+ll*s)=off'\/mm-ll=0))->Good P nt o e H k:=by
     intro cp' off' sz' hk hsz0 hmm
     refine ⟨_,_,fq.bH hnd λm w ac ho=>?_,hk⟩
     have v:=ho x mem x' hx
     rw [hb]at v
     simp only [VR]at v
     obtain ⟨c,cap,o',sp,hc,hm,hlc,hcp,ho'⟩:=v
     have bm:=ie (m:=m) (ac:=ac) (e:=e) hmx λy hy=>ho y (mmx y hy)
     obtain ⟨mm,g1,g2,g3,g4,g5,g6⟩:=hmm c cap o' m _ bm hlc hcp.1 (ho'.imp (·.1) λh=>h)
     have hsb:=gq (P:=P) (isS:=true) (len:=len) (cap:=cap) (l:=ll) (h:=hh) (mm:=mm) (w:=w) (ie (m:=m) (ac:=ac) hlo λy hy=>ho y (mlo y hy)) (ie (m:=m) (ac:=ac) hhi λy hy=>ho y (mhi y hy)) bm h3 h6 g3 h4 h7 g4 hno hle g1 g2
     refine ⟨.slice (some ⟨c,if mm=ll then o' else o'+ll*s,sp⟩) (hh-ll) (mm-ll),?_,?_⟩
     .have ha:(if mm=ll then some (⟨c,o',sp⟩:Addr) else Option.map (λx=>x.add (ll*s)) (some (⟨c,o',sp⟩:Addr)))=some ⟨c,if mm=ll then o' else o'+ll*s,sp⟩:=by
       split
       .rfl
       .have hsp:sp=none:=by
         rcases ho' with h|h
         .exact h.2
         .omega
        rw [hsp];simp [Addr.add_lit]
      simp only [execOp,hop,hc,Instr.sliceAt,Sem.run_bind,run_underlying hu,Result.andThen_ok,Instr.slice,hsb,cK hs,Sem.run_pure,ha]
     .simp only [VR]
      refine ⟨c,mm-ll,_,_,rfl,hm,by omega,⟨g5,λh0=>?_⟩,?_⟩
      rotate_left
      .grind
      obtain ⟨q1,q2,q3,q4⟩:=hsz0 h0
      by_cases hml:mm=ll
      .left;omega
      .have hcapm:=g3 q4
       rcases hcp.2 q1 with q5|q5
       .left;omega
       .right
        rw [if_neg hml,q2,q3]
        have:o'+ll*s+(mm-ll)*s=o'+cap*s:=by
         rw [Nat.add_assoc,<- Wi]
         congr 2
         omega
        rw [this,<- q3]
        exact ⟨q5.1,by have:=q5.2;omega⟩
    cases mx' with
    | none=>
     cases cp with
     | zero=>
      have h10:aF (YX hh len) (aF (YM sz s) (au (Yd off (Yj ll s)) λo'=>k (.slice b o' (Wn hh ll) 0 sz) H) (no _)) (no _)=1:=h9
      obtain ⟨h11,h12⟩:=aQ h10
      obtain ⟨hszs,h12⟩:=aQ h12
      have hszs:=cI hszs
      rw [aw]at h12
      have hhl:=cA h11
      refine key 0 (off+ll*s) sz h12 (λ_=>⟨rfl,rfl,hszs,rfl⟩) λc cap o' m cmx bm hlc hcp ho'=>⟨cap,by omega,YB _,λ_=>rfl,λ_ _ _ h=>(by cases h),λq hq=>absurd hq (by omega),?_⟩
      grind
     | succ q=>
      have h10:aF (YX hh q) (aF (YM q ll) (k (.slice b off (Wn hh ll) 1 0) H) (au (Yd off (Yj ll s)) λo'=>au (WN (Wn q ll)) λc'=>k (.slice b o' (Wn hh ll) c' 0) H)) (no _)=1:=h9
      obtain ⟨h11,h12⟩:=aQ h10
      have hhq:=cA h11
      rcases bP h12 with ⟨h13,h14⟩|⟨h13,h14⟩
      .have:=cI h13
       subst this
       refine key 1 off 0 h14 (λh=>absurd h (by omega)) λc cap o' m cmx bm hlc hcp ho'=>?_
       have:=hcp q rfl
       subst this
       refine ⟨cap,hhq,YB _,λ_=>rfl,λ_ _ _ h=>(by cases h),λr hr=>by omega,YE (by omega)⟩
      .rw [aw,aw]at h14
       rw [fS]at h13
       have hne:q≠ll:=by simpa using h13
       refine key _ _ 0 h14 (λh=>absurd h (by omega)) λc cap o' m cmx bm hlc hcp ho'=>?_
       have:=hcp q rfl
       subst this
       refine ⟨cap,hhq,YB _,λ_=>rfl,λ_ _ _ h=>(by cases h),λr hr=>by injection hr,YG ?_⟩
       rw [if_neg hne]
       rcases ho' with rfl|h15
       .rfl
       .omega
    | some am=>
     have h10:gS id (some am) e 0 (λm=>aF (YX hh m) (aF (YX m (Nat.rec (motive:=λ_=>Nat) len (λq _=>q) cp)) (aF (YM m ll) (k (.slice b off (Wn hh ll) 1 0) H) (au (Yd off (Yj ll s)) λo'=>au (WN (Wn m ll)) λc'=>k (.slice b o' (Wn hh ll) c' 0) H)) (no _)) (no _))=1:=h9
     obtain ⟨mm,h11,_,h13⟩:=kA h10
     obtain ⟨h14,h15⟩:=aQ h11
     obtain ⟨h16,h17⟩:=aQ h15
     have hhm:=cA h14
     have hmc:=cA h16
     have hcap:∀ cap:Nat,len<=cap->(∀ q,cp=q+1->cap=q)->mm<=cap:=λcap q1 q2=>by
      clear h9 h10 h17 h11 h15
      cases cp with
      | zero=>exact Nat.le_trans (show mm<=len from hmc) q1
      | succ q=>rw [q2 q rfl];exact hmc
     rcases bP h17 with ⟨h18,h19⟩|⟨h18,h19⟩
     .have:=cI h18
      subst this
      exact key 1 off 0 h19 (λh=>absurd h (by omega)) λc cap o' m cmx bm hlc hcp ho'=>⟨mm,hhm,hcap cap hlc hcp,λh=>(by cases h),h13,λr hr=>by omega,YE (by omega)⟩
     .rw [aw,aw]at h19
      rw [fS]at h18
      have hne:mm≠ll:=by simpa using h18
      refine key _ _ 0 h19 (λh=>absurd h (by omega)) λc cap o' m cmx bm hlc hcp ho'=>⟨mm,hhm,hcap cap hlc hcp,λh=>(by cases h),h13,λr hr=>(by injection hr),YG ?_⟩
      rw [if_neg hne]
      rcases ho' with rfl|h20
      .rfl
      .have:=hcap cap hlc hcp
       omega
   .obtain ⟨ll,h2,h3,h4⟩:=kA h1
    obtain ⟨hh,h5,h6,h7⟩:=kA h2
    obtain ⟨mm,h8,h9,h10⟩:=kA h5
    obtain ⟨h11,h12⟩:=aQ h8
    obtain ⟨h13,h14⟩:=aQ h12
    obtain ⟨h15,h16⟩:=aQ h14
    have e1:=cI h11
    have e2:=cI h13
    have e3:=cI h15
    subst e1 e2 e3
    refine ⟨_,_,fq.bH hnd λm w ac ho=>?_,h16⟩
    have v:=ho x mem x' hx
    rw [hb]at v
    simp only [VR]at v
    have hsb:=gq (P:=P) (isS:=true) (len:=0) (cap:=0) (l:=0) (h:=0) (mm:=0) (w:=w) (ie (m:=m) (ac:=ac) hlo λy hy=>ho y (mlo y hy)) (ie (m:=m) (ac:=ac) hhi λy hy=>ho y (mhi y hy)) (ie (m:=m) (ac:=ac) hmx λy hy=>ho y (mmx y hy)) h3 h6 h9 h4 h7 h10 hno (YB _) (YB _) (YB _)
    refine ⟨.slice none 0 0,?_,by simp only [VR]⟩
    simp only [execOp,hop,v,Instr.sliceAt,Sem.run_bind,run_underlying hu,Result.andThen_ok,Instr.slice,hsb,cK hs,Sem.run_pure]
    rfl
  .exact (av h).elim
 .rename_i n el hu
  split at h
  .rename_i s hs
   have hfin:aao n s x' lo' hi' mx' id ph e H k=1/\(hi'=none->mx'=none):=by
    split at h
    .exact (av h).elim
    .rename_i hno
     exact ⟨h,λh1=>by
      cases mx' with
      | none=>rfl
      | some a=>exact (hno a h1 rfl).elim⟩
   obtain ⟨h',hno⟩:=hfin
   unfold aao at h'
   rw [aq]at h'
   obtain ⟨b,off,hb,h1⟩:=fU h'
   obtain ⟨mm,h2,h3,h4⟩:=kA h1
   obtain ⟨hh,h5,h6,h7⟩:=kA h2
   obtain ⟨ll,h8,h9,h10⟩:=kA h5
   obtain ⟨h11,h12⟩:=aQ h8
   obtain ⟨h13,h14⟩:=aQ h12
   obtain ⟨h15,h16⟩:=aQ h14
   rw [aw]at h16
   have hle:=cA h11
   have hhm:=cA h13
   have sD:=cA h15
   have key:∀ (cp' off':Nat),k (.slice b off' (hh-ll) cp' 0) H=1->cp'≠0->(∀ q,cp'=q+1->mm-ll=q)->(if mm=ll then off else off+ll*s)=off'->Good P nt o e H k:=by
    intro cp' off' hk hne0 g5 g6
    refine ⟨_,_,fq.bH hnd λm w ac ho=>?_,hk⟩
    have v:=ho x mem x' hx
    rw [hb]at v
    simp only [VR]at v
    obtain ⟨c,hc,hm⟩:=v
    have hsb:=gq (P:=P) (isS:=false) (len:=n) (cap:=n) (l:=ll) (h:=hh) (mm:=mm) (w:=w) (ie (m:=m) (ac:=ac) hlo λy hy=>ho y (mlo y hy)) (ie (m:=m) (ac:=ac) hhi λy hy=>ho y (mhi y hy)) (ie (m:=m) (ac:=ac) hmx λy hy=>ho y (mmx y hy)) h9 h6 h3 h10 h7 h4 hno hle hhm sD
    refine ⟨.slice (some ⟨c,if mm=ll then off else off+ll*s,none⟩) (hh-ll) (mm-ll),?_,?_⟩
    .have ha:(if mm=ll then (⟨c,off,none⟩:Addr) else (⟨c,off,none⟩:Addr).add (ll*s))=⟨c,if mm=ll then off else off+ll*s,none⟩:=by
      split<;>simp [Addr.add_lit]
     simp only [execOp,hop,hc,Instr.sliceAt,Sem.run_bind,run_underlying hu,Result.andThen_ok,Instr.sureAddr,hsb,cK hs,Sem.run_pure,ha]
    .simp only [VR]
     exact ⟨c,mm-ll,_,_,rfl,hm,by omega,⟨g5,λh=>absurd h hne0⟩,YG ⟨g6,rfl⟩⟩
   rcases bP h16 with ⟨h17,h18⟩|⟨h17,h18⟩
   .have:=cI h17
    subst this
    exact key 1 off h18 (by omega) (λq hq=>by omega) (by rw [if_pos rfl])
   .rw [aw,aw]at h18
    rw [fS]at h17
    have hne:mm≠ll:=by simpa using h17
    exact key _ _ h18 (by omega) (λq hq=>by injection hq) (by rw [if_neg hne];rfl)
  .exact (av h).elim
 .exact (av h).elim
end
end Go.Ev
end
section
namespace Go.Ev
open Go.RowKit
section
variable {P:Program} {nt:Nat} {o:Oper} {id:Nat} {ph:cU} {e:Env} {H:Heap} {k:K}
theorem Oo {t} (hop:o.op = .makeMap t none) (h:aL (ai P nt o) id ph e H k=1):Good P nt o e H k:=by
 simp only [ai,hop]at h
 have hnd:∀ c,o.op ≠ .defer c:=by simp_all
 have h':(cB H (.map []) λb H=>k (.map b) H)=1:=h
 obtain ⟨H',h1,h2⟩:=dH h'
 refine ⟨_,_,fq.of_run hnd λbase w0 rho w a hp ho=>?_,h1⟩
 obtain ⟨p1,p2⟩:=hp.alloc (w':=w.alloc (.map #[] 0)) h2.n h2.bz h2.get h2.vU trivial ⟨rfl,rfl,rfl⟩ (by simp) (World.alloc_heap_new w _) (λj hj=>Below.heap_alloc _ _ _ hj) ⟨#[],0,[],rfl,List.Perm.refl _,⟨Qh,λx h=>by simp⟩,⟨Qh,λx h=>by cases h⟩,by rfl,by rfl⟩
 exact ⟨.map (some w.heap.size),w.alloc (.map #[] 0),by simp [execOp,hop,Instr.makeMap],_,by exact ⟨_,rfl,by rw [h2.n];omega,λ_=>by simp⟩,p1,p2⟩
def OV (ks:Bool) (d:TypeDesc):Prop:=(ks=false/\∃ k,d = .int k)\/(ks=true/\d = .string)
theorem Cr {t} {ks} (h:NI P t=some ks):∃ d,P.underlying t=some d/\OV ks d:=by
 unfold NI at h
 split at h
 .rename_i q hu;cases h;exact ⟨_,hu,YG ⟨rfl,q,rfl⟩⟩
 .rename_i hu;cases h;exact ⟨_,hu,YE ⟨rfl,rfl⟩⟩
 simp_all
def IU (ks:Bool) (x y:V):Prop:=(ks=false/\∃ k a b,x = .int k a/\y = .int k b)\/(ks=true/\∃ l a m b,x = .str l a/\y = .str m b)
theorem IU.kd {ks:Bool} {x y:V} (h:IU ks x y):Kd x y:=h.imp (λh=>h.2) (λh=>h.2)
theorem IU.trans {ks:Bool} {x y z:V} (h:IU ks x y) (k:Kd y z):IU ks x z:=by
 rcases h with ⟨h,q,a,b,rfl,rfl⟩|⟨h,l,a,m,b,rfl,rfl⟩<;>rcases k with ⟨q',a',b',e,rfl⟩|⟨l',a',m',b',e,rfl⟩<;>cases e
 .exact YG ⟨h,_,_,_,rfl,rfl⟩
 .exact YE ⟨h,_,_,_,_,rfl,rfl⟩
theorem Kd.symm {x y:V} (h:Kd x y):Kd y x:=by
 rcases h with ⟨q,a,b,rfl,rfl⟩|⟨l,a,m,b,rfl,rfl⟩
 .exact YG ⟨_,_,_,rfl,rfl⟩
 .exact YE ⟨_,_,_,_,rfl,rfl⟩
theorem xV {ks} {x y} {f} (h:Mf id ks x y f=1):∃ b,f b=1/\(b=true->x=y)/\(b=false->x≠y)/\IU ks x y:=by
 cases x<;>first|exact (av h).elim|skip
 .rename_i k1 a
  have h':cC id y (λk2 b=>aF ks (no _) (aF (YM k1 k2) (f (YM a b)) (no _)))=1:=h
  obtain ⟨k2,b,rfl,h1⟩:=dK h'
  rcases bP h1 with ⟨_,h2⟩|⟨hks,h2⟩
  .exact (av h2).elim
  obtain ⟨h3,h4⟩:=aQ h2
  have:=cI h3
  subst this
  refine ⟨_,h4,λhb=>by simp_all,λhb e=>?_,YG ⟨hks,_,_,_,rfl,rfl⟩⟩
  simp_all
 .rename_i l1 a
  have h':ej id y (λl2 b=>aF ks (aF (YM l1 l2) (f (YM a b)) (f false)) (no _))=1:=h
  obtain ⟨l2,b,rfl,h1⟩:=eD h'
  obtain ⟨hks,h2⟩:=aQ h1
  have hf:f (decide (l1=l2) && decide (a=b))=1:=by
   rcases bP h2 with ⟨h3,h4⟩|⟨h3,h4⟩
   .rw [fS]at h3 h4
    simp_all
   .rw [fS]at h3
    simp_all
  refine ⟨_,hf,λhb=>by simp_all,λhb e=>?_,YE ⟨hks,_,_,_,_,rfl,rfl⟩⟩
  simp_all
theorem GC {ks} {x y} (hk:IU ks x y) {m} {cx cy} {d} (vx:VR m x cx) (vy:VR m y cy) (hd:OV ks d):(x=y->Instr.sameNow d cx cy=some true/\Instr.sameBits 10000 cy cx=true)/\(x≠y->Instr.sameNow d cx cy=some false):=by
 rcases hk with ⟨rfl,q,a,b,rfl,rfl⟩|⟨rfl,l1,a,l2,b,rfl,rfl⟩
 .rw [vx.1,vy.1]
  rcases hd with ⟨_,q2,rfl⟩|⟨h,_⟩
  .refine ⟨λe=>?_,λe=>?_⟩
   .cases e
    refine ⟨by simp [Instr.sameNow],?_⟩
    simp [Instr.sameBits]
   .have hab:a≠b:=λh=>e (by rw [h])
    have:=λh=>hab (toI_inj _ vx.2.1 vy.2.1 h)
    simp only [Instr.sameNow,if_true]
    simp_all
  simp_all
 .rw [vx.1,vy.1]
  rcases hd with ⟨h,_⟩|⟨_,rfl⟩
  .cases h
  .refine ⟨λe=>?_,λe=>?_⟩
   .cases e
    have hs:((⟨(aB l1 a).toArray⟩:ByteArray) == ⟨(aB l1 a).toArray⟩)=true:=by rw [beq_toListBytes];simp
    refine ⟨by simp only [Instr.sameNow,hs],?_⟩
    simp only [Instr.sameBits]
    omega
   .have:((⟨(aB l1 a).toArray⟩:ByteArray) == ⟨(aB l2 b).toArray⟩)=false:=by
     rw [beq_toListBytes,ByteArray.toList_eq,ByteArray.toList_eq,beq_eq_false_iff_ne]
     intro h
     have hl:=congrArg List.length h
     simp [aK]at hl
     subst hl
     exact e (by rw [rF vx.2 vy.2 (by omega)])
    simp only [Instr.sameNow,this]
def gd (m:M) (es:List (V × V)) (ents:List MapEntry):Prop:=cm m (es.map (·.1)) (ents.map (·.key))/\cm m (es.map (·.2)) (ents.map (·.val))
theorem gd.cons {m:M} {p:V × V} {es:List (V × V)} {ents:List MapEntry} (h:gd m (p :: es) ents):∃ en r,ents=en :: r/\VR m p.1 en.key/\VR m p.2 en.val/\gd m es r:=by
 obtain ⟨h1,h2⟩:=h
 simp only [YP,cm]at h1 h2
 obtain ⟨c,r,h3,h4,h5⟩:=h1
 obtain ⟨c',r',h6,h7,h8⟩:=h2
 cases ents with
 | nil=>cases h3
 | cons en r0=>
  simp only [YP,List.cons.injEq]at h3 h6
  obtain ⟨rfl,rfl⟩:=h3
  obtain ⟨rfl,rfl⟩:=h6
  exact ⟨en,r0,rfl,h4,h7,h5,h8⟩
theorem gd.mk {m:M} {p:V × V} {es:List (V × V)} {en:MapEntry} {r:List MapEntry} (h1:VR m p.1 en.key) (h2:VR m p.2 en.val) (h:gd m es r):gd m (p :: es) (en :: r):=by
 refine ⟨?_,?_⟩<;>simp only [YP,cm]
 .exact ⟨_,_,rfl,h1,h.1⟩
 .exact ⟨_,_,rfl,h2,h.2⟩
theorem gd.nil {m:M} {ents:List MapEntry} (h:gd m [] ents):ents=[]:=by
 have:=h.1
 simp only [Yc,cm]at this
 simpa using this
theorem gd.set {m:M} {p:V × V} {en:MapEntry} (h1:VR m p.1 en.key) (h2:VR m p.2 en.val):∀ {es:List (V × V)} {ents:List MapEntry} {i:Nat},gd m es ents->gd m (es.set i p) (ents.set i en)
 | [],_,_,h=>by rw [h.nil];exact ⟨by simp only [List.set_nil,Yc,cm],by simp only [List.set_nil,Yc,cm]⟩
 | q :: es,ents,i,h=>by
  obtain ⟨e,r,rfl,e1,e2,e3⟩:=h.cons
  cases i with
  | zero=>exact gd.mk h1 h2 e3
  | succ i=>exact gd.mk e1 e2 (gd.set h1 h2 e3)
theorem gd.erase {m:M}:∀ {es:List (V × V)} {ents:List MapEntry} {i:Nat},gd m es ents->gd m (es.eraseIdx i) (ents.eraseIdx i)
 | [],_,_,h=>by rw [h.nil];exact ⟨by simp only [YN0,Yc,cm],by simp only [YN0,Yc,cm]⟩
 | q :: es,ents,i,h=>by
  obtain ⟨e,r,rfl,e1,e2,e3⟩:=h.cons
  cases i with
  | zero=>exact e3
  | succ i=>exact gd.mk e1 e2 (gd.erase e3)
theorem gd.snoc {m:M} {p:V × V} {en:MapEntry} (h1:VR m p.1 en.key) (h2:VR m p.2 en.val):∀ {es:List (V × V)} {ents:List MapEntry},gd m es ents->gd m (es ++ [p]) (ents ++ [en])
 | [],_,h=>by rw [h.nil];exact gd.mk h1 h2 ⟨by simp only [Yc,cm],by simp only [Yc,cm]⟩
 | q :: es,ents,h=>by
  obtain ⟨e,r,rfl,e1,e2,e3⟩:=h.cons
  exact gd.mk e1 e2 (gd.snoc h1 h2 e3)
theorem sC {ks} {x v} {m} {cx} {d} (vx:VR m x cx) (hd:OV ks d):∀ {es} {ents} (j),(x,v) ∈ es->(es.map (·.1)).Nodup->(∀ p ∈ es,IU ks x p.1)->gd m es ents->
 ∃ i cv en,Instr.findNow d cx ents j=some (some (j+i,cv))/\VR m v cv/\es[i]? = some (x,v)/\ents[i]? = some en/\Instr.sameBits 10000 en.key cx=true
 | [],_,_,h,_,_,_=>by cases h
 | (a,u):: es,ents,j,h,hn,hk,he=>by
  obtain ⟨en,r,rfl,e1,e2,e3⟩:=he.cons
  obtain ⟨g1,g2⟩:=GC (hk _ (YJ ..)) vx e1 hd
  rw [YP,Wg]at hn
  rcases Yb.1 h with h|h
  .cases h
   obtain ⟨g3,g4⟩:=g1 rfl
   exact ⟨0,en.val,en,by simp only [Instr.findNow,g3,Nat.add_zero],e2,rfl,rfl,g4⟩
  .have hne:=λe=>hn.1 (Yi.2 ⟨(x,v),h,e⟩)
   obtain ⟨i,cv,en',g3,g4,g5,g6,g7⟩:=sC vx hd (j+1) h hn.2 (λp hp=>hk p (YI _ hp)) e3
   exact ⟨i+1,cv,en',by simp only [Instr.findNow,g2 hne,g3];grind,g4,by simp_all,by simp_all,g7⟩
theorem qk {ks} {x} {m} {cx} {d} (vx:VR m x cx) (hd:OV ks d):∀ {es} {ents} (j),(∀ p ∈ es,p.1≠x)->(∀ p ∈ es,IU ks x p.1)->gd m es ents->Instr.findNow d cx ents j=some none
 | [],_,_,_,_,he=>by rw [he.nil];rfl
 | (a,u):: es,ents,j,h,hk,he=>by
  obtain ⟨en,r,rfl,e1,e2,e3⟩:=he.cons
  obtain ⟨_,g2⟩:=GC (hk _ (YJ ..)) vx e1 hd
  have hne:x≠a:=λe=>h _ (YJ ..) e.symm
  simp only [Instr.findNow,g2 hne,qk vx hd (j+1) (λp hp=>h p (YI _ hp)) (λp hp=>hk p (YI _ hp)) e3]
theorem fE.tail {a:V} {l:List V} (h:fE (a :: l)):fE l:=⟨(Wg.1 h.1).2,λx hx y hy=>h.2 x (YI _ hx) y (YI _ hy)⟩
theorem fE.perm {l m:List V} (h:fE l) (hp:l.Perm m):fE m:=⟨hp.nodup_iff.1 h.1,λx hx y hy=>h.2 x (hp.mem_iff.2 hx) y (hp.mem_iff.2 hy)⟩
theorem Cq {ks} {x} {es:List (V × V)} (h:es=[]\/∃ p ∈ es,IU ks x p.1) (ho:fE (es.map (·.1))):∀ p ∈ es,IU ks x p.1:=λp hp=>by
 rcases h with rfl|⟨q,hq,h⟩
 .cases hp
 .exact h.trans (ho.2 q.1 (Yi.2 ⟨q,hq,rfl⟩) p.1 (Yi.2 ⟨p,hp,rfl⟩))
theorem GM {ks} {x} {f} {z}:∀ {es},uJ id ks es x f z=1->(es=[]\/∃ p ∈ es,IU ks x p.1)/\((∃ v,f v=1/\(x,v) ∈ es)\/(z=1/\∀ p ∈ es,p.1≠x))
 | [],h=>⟨YG rfl,YE ⟨h,λp h=>by cases h⟩⟩
 | (a,v):: es,h=>by
  have h':=h
  obtain ⟨b,h1,h2,h3,h4⟩:=xV h'
  refine ⟨YE ⟨_,YJ ..,h4⟩,?_⟩
  rcases bP h1 with ⟨rfl,h5⟩|⟨rfl,h5⟩
  .grind
  .rcases (GM h5).2 with ⟨v',h6,h7⟩|⟨h6,h7⟩
   .grind
   grind
theorem run_checkKey {b} {t} {d} {ks} {c} {w} (hu:P.underlying t=some d) (hd:OV ks d):(Instr.checkKey b 10000 t c).run P w = .ok () w:=by
 show (Instr.checkKey b (9999+1) t c).run P w=_
 generalize 9999=dd
 rcases hd with ⟨_,q,rfl⟩|⟨_,rfl⟩<;>simp only [Instr.checkKey,Sem.run_bind,run_underlying hu,Result.andThen_ok,Sem.run_pure]
theorem run_findKey {t} {d} {c} {ents} {r} {w} (hu:P.underlying t=some d) (h:Instr.findNow d c ents 0=some r):(Instr.findKey t c ents).run P w = .ok r w:=by
 simp [Instr.findKey,run_underlying hu,h]
theorem PR.ya {base:Nat} {w0 w:World} {rho:Nat->Option Nat} (hp:PR P base w0 rho H w) {b c:Nat} {es:List (V × V)} (hb:H.get b = .map es) (hm:(mu rho H w).b b c):rho b=some c/\∃ ents clock es',w.heap[c]? = some (.map ents clock)/\es'.Perm es/\fE (es.map (·.1))/\gd (mu rho H w) es' ents.toList/\lL ents clock:=by
 have hr:rho b=some c:=hm.2 (by rw [hb];trivial)
 obtain ⟨o,h1,h2⟩:=hp.db b c hr
 rw [hb]at h2
 obtain ⟨ents,clock,es',rfl,h5,h6,h7,h3,h4⟩:=h2
 exact ⟨hr,ents,clock,es',h1,h5,h6,⟨h3,h4⟩,h7⟩
theorem keys_perm {es es':List (V × V)} (h:es'.Perm es) (ho:fE (es.map (·.1))):fE (es'.map (·.1)):=ho.perm (h.symm.map _)
theorem gv {c} {ob} {w} (h:w.heap[c]? = some ob) (hn:∀ a b d,ob ≠ .cells a b d):(getObj c).run P w = .ok ob w:=by
 unfold getObj
 unfold Sem.run
 simp_all
theorem nK {c} {ob o'} {w} (h:w.heap[c]? = some ob) (hn:∀ a b d,ob ≠ .cells a b d):(setObj c o').run P w = .ok () {w with heap:=w.heap.setIfInBounds c o' }:=by
 unfold setObj
 unfold Sem.run
 simp_all
theorem Uo {t} {z} (h:zeroV P t=some z):∃ i zv,P.info? t=some i/\i.zero=some zv/\∀ m,VR m z zv:=by
 unfold zeroV at h
 split at h
 .rename_i i hi
  split at h
  .rename_i zv hz
   exact ⟨i,zv,hi,hz,λm=>tJ h⟩
  simp_all
 simp_all
theorem Tq {t:TypeId} {mm x:Operand} {ok:Bool} (hop:o.op = .lookup t mm x ok) (h:aL (ai P nt o) id ph e H k=1):Good P nt o e H k:=by
 simp only [ai,hop]at h
 have mem:mm ∈ o.op.operands/\x ∈ o.op.operands:=by simp [hop,Op.operands]
 have hnd:∀ c,o.op ≠ .defer c:=by simp [hop]
 split at h
 .rename_i m' x' kt el hm hx hu
  split at h
  .rename_i z ks hz hks
   obtain ⟨d,hd1,hd2⟩:=Cr hks
   obtain ⟨i,zv,hi,hzv,hzr⟩:=Uo hz
   have h':Rn ks z ok m' x' id ph e H k=1:=h
   unfold Rn at h'
   rw [aq,aq]at h'
   have hzrun:∀ w:World,(zeroValue el).run P w = .ok zv w:=λw=>by simp [zeroValue,typeInfo,hi,hzv]
   have fin0:aF ok (k (.cH [z,.bool false]) H) (k z H)=1->(∀ (m:M) (w:World) (ac:Act),OR m nt e ac o->(execOp ac.eval o).run P w = .ok (.value (if ok then .tuple #[zv,.bool false] else zv)) w)->Good P nt o e H k:=by
    intro hk hrun
    rcases bP hk with ⟨rfl,h1⟩|⟨rfl,h1⟩
    .exact ⟨_,_,fq.bH hnd λm w ac ho=>⟨_,hrun m w ac ho,by exact ⟨_,rfl,by exact ⟨_,_,rfl,hzr m,_,_,rfl,by simp only [VR],rfl⟩⟩⟩,h1⟩
    .exact ⟨_,_,fq.bH hnd λm w ac ho=>⟨_,hrun m w ac ho,by grind⟩,h1⟩
   rcases IA h' with ⟨b,hb,h1⟩|⟨hb,h1⟩
   .rw [aV]at h1
    obtain ⟨es,hes,h2⟩:=vE h1
    obtain ⟨hkd,h2⟩:=GM h2
    rcases h2 with ⟨v,h3,h4⟩|⟨h3,h4⟩
    .have hrun:∀ (base:Nat) (w0:World) (rho:Nat->Option Nat) (w:World) (a:Act),PR P base w0 rho H w->OR (mu rho H w) nt e a o->∃ cv,VR (mu rho H w) v cv/\(execOp a.eval o).run P w = .ok (.value (if ok then .tuple #[cv,.bool true] else cv)) w:=by
      intro base w0 rho w a hp ho
      have vm:=ho mm mem.1 m' hm
      rw [hb]at vm
      obtain ⟨c,hc,hmu⟩:=vm
      obtain ⟨_,ents,clock,es',g1,gp,go,g2,_⟩:=hp.ya hes hmu
      have hka:=Cq hkd go
      obtain ⟨i',cv,en,g3,g4,_⟩:=sC (ho x mem.2 x' hx) hd2 0 (gp.mem_iff.2 h4) (keys_perm gp go).1 (λp hp=>hka p (gp.mem_iff.1 hp)) g2
      refine ⟨cv,g4,?_⟩
      simp only [execOp,hop,hc,Instr.lookup,Sem.run_bind,run_underlying hu,Result.andThen_ok,gv g1 (by simp),Sem.run_pure,run_checkKey hd1 hd2,run_findKey hd1 g3]
     rcases bP h3 with ⟨rfl,h5⟩|⟨rfl,h5⟩
     .refine ⟨_,_,fq.of_run hnd λbase w0 rho w a hp ho=>?_,h5⟩
      obtain ⟨cv,g1,g2⟩:=hrun base w0 rho w a hp ho
      exact ⟨_,w,g2,rho,by exact ⟨_,rfl,by exact ⟨_,_,rfl,g1,_,_,rfl,by simp only [VR],rfl⟩⟩,hp,Ext.refl hp.lt⟩
     .refine ⟨_,_,fq.of_run hnd λbase w0 rho w a hp ho=>?_,h5⟩
      obtain ⟨cv,g1,g2⟩:=hrun base w0 rho w a hp ho
      exact ⟨_,w,g2,rho,by grind,hp,Ext.refl hp.lt⟩
    .have hrun:∀ (base:Nat) (w0:World) (rho:Nat->Option Nat) (w:World) (a:Act),PR P base w0 rho H w->OR (mu rho H w) nt e a o->(execOp a.eval o).run P w = .ok (.value (if ok then .tuple #[zv,.bool false] else zv)) w:=by
      intro base w0 rho w a hp ho
      have vm:=ho mm mem.1 m' hm
      rw [hb]at vm
      obtain ⟨c,hc,hmu⟩:=vm
      obtain ⟨_,ents,clock,es',g1,gp,go,g2,_⟩:=hp.ya hes hmu
      have hka:=Cq hkd go
      have g3:=qk (ho x mem.2 x' hx) hd2 0 (λp hp=>h4 p (gp.mem_iff.1 hp)) (λp hp=>hka p (gp.mem_iff.1 hp)) g2
      simp only [execOp,hop,hc,Instr.lookup,Sem.run_bind,run_underlying hu,Result.andThen_ok,gv g1 (by simp),Sem.run_pure,run_checkKey hd1 hd2,run_findKey hd1 g3,hzrun]
     rcases bP h3 with ⟨rfl,h5⟩|⟨rfl,h5⟩
     .exact ⟨_,_,fq.of_run hnd λbase w0 rho w a hp ho=>⟨_,w,hrun base w0 rho w a hp ho,rho,by exact ⟨_,rfl,by exact ⟨_,_,rfl,hzr _,_,_,rfl,by simp only [VR],rfl⟩⟩,hp,Ext.refl hp.lt⟩,h5⟩
     .exact ⟨_,_,fq.of_run hnd λbase w0 rho w a hp ho=>⟨_,w,hrun base w0 rho w a hp ho,rho,by grind,hp,Ext.refl hp.lt⟩,h5⟩
   .refine fin0 h1 λm w ac ho=>?_
    have vm:=ho mm mem.1 m' hm
    rw [hb]at vm
    simp only [VR]at vm
    simp only [execOp,hop,vm,Instr.lookup,Sem.run_bind,run_underlying hu,Result.andThen_ok,Sem.run_pure,run_checkKey hd1 hd2,run_findKey hd1 (show Instr.findNow d (ac.eval x) (#[]:Array MapEntry).toList 0=some none from rfl),hzrun]
  .exact (av h).elim
 .exact (av h).elim
theorem MC {ks} {x y}:∀ {es} {f},Ig id ks es x y f=1->∃ es2,f es2=1/\(es=[]\/∃ p ∈ es,IU ks x p.1)/\((∃ v rest,es.Perm ((x,v):: rest)/\es2.Perm ((x,y):: rest))\/((∀ p ∈ es,p.1≠x)/\es2.Perm ((x,y):: es)))
 | [],f,h=>⟨_,h,YG rfl,YE ⟨λp h=>(by cases h),List.Perm.refl _⟩⟩
 | (a,v):: es,f,h=>by
  have h':=h
  obtain ⟨b,h1,h2,h3,h4⟩:=xV h'
  rcases bP h1 with ⟨rfl,h5⟩|⟨rfl,h5⟩
  .obtain rfl:=h2 rfl
   exact ⟨_,h5,YE ⟨_,YJ ..,h4⟩,YG ⟨v,es,List.Perm.refl _,List.Perm.refl _⟩⟩
  .obtain ⟨es2,h6,_,h7⟩:=MC h5
   refine ⟨_,h6,YE ⟨_,YJ ..,h4⟩,?_⟩
   rcases h7 with ⟨u,rest,h8,h9⟩|⟨h8,h9⟩
   .exact YG ⟨u,(a,v):: rest,(h8.cons _).trans (List.Perm.swap ..),(h9.cons _).trans (List.Perm.swap ..)⟩
   .exact YE ⟨λp hp=>(Yb.1 hp).elim (λe=>e ▸ (h3 rfl).symm) (h8 p),(h9.cons _).trans (List.Perm.swap ..)⟩
theorem L6 {ks} {x}:∀ {es} {f},ado id ks es x f=1->∃ es2,f es2=1/\(es=[]\/∃ p ∈ es,IU ks x p.1)/\((∃ v,es.Perm ((x,v):: es2))\/((∀ p ∈ es,p.1≠x)/\es2=es))
 | [],f,h=>⟨_,h,YG rfl,YE ⟨λp h=>(by cases h),rfl⟩⟩
 | (a,v):: es,f,h=>by
  have h':=h
  obtain ⟨b,h1,h2,h3,h4⟩:=xV h'
  rcases bP h1 with ⟨rfl,h5⟩|⟨rfl,h5⟩
  .obtain rfl:=h2 rfl
   exact ⟨_,h5,YE ⟨_,YJ ..,h4⟩,YG ⟨v,List.Perm.refl _⟩⟩
  .obtain ⟨es2,h6,_,h7⟩:=L6 h5
   refine ⟨_,h6,YE ⟨_,YJ ..,h4⟩,?_⟩
   rcases h7 with ⟨u,h8⟩|⟨h8,rfl⟩
   .exact YG ⟨u,(h8.cons _).trans (List.Perm.swap ..)⟩
   grind
theorem nE {α:Type}:∀ {l:List α} {i} {a},l[i]? = some a->l.Perm (a :: l.eraseIdx i)
 | [],i,a,h=>by simp_all
 | x :: l,0,a,h=>by
  simp_all
 | x :: l,i+1,a,h=>((nE (by simp_all)).cons x).trans (List.Perm.swap ..)
theorem S9 {α:Type} {l:List α} {i} {a b} (h:l[i]? = some a):(l.set i b).Perm (b :: l.eraseIdx i):=by
 obtain ⟨hlt,_⟩:=Yo.1 h
 have h1:(l.set i b)[i]? = some b:=by simp_all
 have:=nE h1
 grind
theorem NJ {x v y} {es es2 rest:List (V × V)} (h1:es.Perm ((x,v):: rest)) (h2:es2.Perm ((x,y):: rest)) (ho:fE (es.map (·.1))):fE (es2.map (·.1)):=by
 have h3:(es.map (·.1)).Perm (x :: rest.map (·.1)):=h1.map _
 have h4:(es2.map (·.1)).Perm (x :: rest.map (·.1)):=h2.map _
 exact ho.perm (h3.trans h4.symm)
theorem Se {ks} {x y} {es es2:List (V × V)} (h1:∀ p ∈ es,p.1≠x) (h2:es2.Perm ((x,y):: es)) (hx:Kd x x) (hk:∀ p ∈ es,IU ks x p.1) (ho:fE (es.map (·.1))):fE (es2.map (·.1)):=by
 have h4:(es2.map (·.1)).Perm (x :: es.map (·.1)):=h2.map _
 refine fE.perm ⟨Wg.2 ⟨λh=>?_,ho.1⟩,λa ha b hb=>?_⟩ h4.symm
 .grind
 .have hxb:∀ c,c ∈ es.map (·.1)->Kd x c:=λc hc=>by
   obtain ⟨p,hp,rfl⟩:=Yi.1 hc
   exact (hk p hp).kd
  rcases Yb.1 ha with ea|ha<;>rcases Yb.1 hb with eb|hb
  .simp_all
  .grind
  .rw [eb];exact (hxb _ ha).symm
  .exact ho.2 a ha b hb
theorem K7 {ents ents2} {clock i} {en} {k v} (hen:ents[i]? = some en) (h:lL ents clock) (h2:ents2.toList=ents.toList.set i {en with key:=k,val:=v }):lL ents2 clock:=by
 have hm:(ents.toList.set i {en with key:=k,val:=v }).map (·.born)=ents.toList.map (·.born):=by
  refine Qc λj=>?_
  grind
 refine ⟨by rw [h2,hm];exact h.1,λq hq=>?_⟩
 have:q.born ∈ ents.toList.map (·.born):=by grind
 obtain ⟨q',hq',e⟩:=Yi.1 this
 rw [<- e]
 exact h.2 q' hq'
theorem Iq {ents} {clock} {k v} (h:lL ents clock):lL (ents.push {key:=k,val:=v,born:=clock }) (clock+1):=by
 unfold lL
 rw [YN1]
 refine ⟨?_,λq hq=>?_⟩
 .rw [WB,List.nodup_append]
  refine ⟨h.1,by simp,λa ha b hb e=>?_⟩
  obtain ⟨q,hq,rfl⟩:=Yi.1 ha
  have:=h.2 q hq
  simp_all
 .rcases Yn.1 hq with hq|hq
  .have:=h.2 q hq;omega
  simp_all
theorem De {ents ents2} {clock i} (h:lL ents clock) (h2:ents2.toList=ents.toList.eraseIdx i):lL ents2 clock:=by
 have hs:(ents.toList.eraseIdx i).Sublist ents.toList:=List.eraseIdx_sublist ..
 exact ⟨by rw [h2];exact (hs.map _).nodup h.1,λq hq=>h.2 q (hs.subset (by simp_all))⟩
theorem PR.qp {base:Nat} {w0 w:World} {rho:Nat->Option Nat} {H':Heap} (hp:PR P base w0 rho H w) {b c:Nat} {es es2 es':List (V × V)} {ents0 ents:Array MapEntry} {clock0 clock:Nat} (hb:H.get b = .map es) (hr:rho b=some c) (hw:w.heap[c]? = some (.map ents0 clock0)) (hS:O0 H b (.map es2) H') (hperm:es'.Perm es2) (hok:fE (es2.map (·.1))) (hst:lL ents clock) (he:gd (mu rho H w) es' ents.toList):
 PR P base w0 rho H' {w with heap:=w.heap.setIfInBounds c (.map ents clock)}/\Ext rho H w rho H' {w with heap:=w.heap.setIfInBounds c (.map ents clock)}:=by
 have hlt:c<w.heap.size:=(hp.jP b c hr).2.2.1
 exact hp.write (o:=.map ents clock) hr (by rw [hb];intro e;cases e) hS.n hS.bz hS.wb hS.get hS.vU trivial ⟨rfl,rfl,rfl⟩ (by simp) (by simp [hlt]) (λj hj=>by simp [Array.getElem?_setIfInBounds_ne (Ne.symm hj)]) ⟨ents,clock,es',rfl,hperm,hok,hst,he.1,he.2⟩ (λcs e fr h=>by rw [hw]at h;cases h) (λr h=>by rw [hw]at h;cases h)
theorem Gt {x} {k} (h:isKey id x k=1):Kd x x/\k=1:=by
 cases x<;>first|exact (av h).elim|exact ⟨YG ⟨_,_,_,rfl,rfl⟩,h⟩|exact ⟨YE ⟨_,_,_,_,rfl,rfl⟩,h⟩
theorem uP {t} {mm x y} (hop:o.op = .mapUpdate t mm x y\/o.op = .insert t mm x y) (h:aL (ai P nt o) id ph e H k=1):Good P nt o e H k:=by
 have hc:ai P nt o=match aH nt mm,aH nt x,aH nt y,P.underlying t with
  | some m,some x,some y,some (.map kt _)=>(match NI P kt with | some ks=>.aaW ks m x y | none=>.bad)
  | _,_,_,_=>.bad:=by rcases hop with h | h<;>simp only [ai,h]<;>rfl
 rw [hc]at h
 have mem:mm ∈ o.op.operands/\x ∈ o.op.operands/\y ∈ o.op.operands:=by rcases hop with h|h<;>simp [h,Op.operands]
 have hnd:∀ c,o.op ≠ .defer c:=by grind
 split at h
 .rename_i m' x' y' kt el hm hx hy hu
  split at h
  .rename_i ks hks
   obtain ⟨d,hd1,hd2⟩:=Cr hks
   have h':Rq ks m' x' y' id ph e H k=1:=h
   unfold Rq at h'
   rw [aq,aq,aq]at h'
   obtain ⟨b,hb,h1⟩:=MG h'
   rw [aV]at h1
   obtain ⟨es,hes,h2⟩:=vE h1
   obtain ⟨hxs,h2⟩:=Gt h2
   obtain ⟨es2,h3,hkd,h4⟩:=MC h2
   obtain ⟨H',h5,h6⟩:=ib h3
   refine ⟨_,_,fq.Cz hnd λbase w0 rho w a hp ho=>?_,h5⟩
   have vm:=ho mm mem.1 m' hm
   rw [hb]at vm
   obtain ⟨c,hcm,hmu⟩:=vm
   obtain ⟨hr,ents,clock,es',g1,gp,go,g2,gs⟩:=hp.ya hes hmu
   have hka:=Cq hkd go
   have hka':=λp hp=>hka p (gp.mem_iff.1 hp)
   have vx:=ho x mem.2.1 x' hx
   have vy:=ho y mem.2.2 y' hy
   have hex:(execOp a.eval o).run P w=((Instr.mapUpdate t (a.eval mm) (a.eval x) (a.eval y)).run P w).andThen λ_ w'=>.ok .skip w':=by
    rcases hop with h|h<;>simp only [execOp,h,Sem.run_bind,Sem.run_pure]
   rcases h4 with ⟨v,rest,h7,h8⟩|⟨h7,h8⟩
   .obtain ⟨i,cv,en,f1,f2,f3,f4,f5⟩:=sC vx hd2 0 ((gp.trans h7).mem_iff.2 (YJ ..)) (keys_perm gp go).1 hka' g2
    have hen:ents[i]? = some en:=by simp_all
    have hmod:(ents.modify i λe=>{e with key:=a.eval x,val:=a.eval y }).toList=ents.toList.set i {en with key:=a.eval x,val:=a.eval y }:=by
     refine Qc λk=>?_
     grind
    obtain ⟨p1,p2⟩:=hp.qp hes hr g1 h6
     ((S9 f3).trans ((((nE f3).symm.trans (gp.trans h7)).cons_inv.cons _).trans h8.symm)) (NJ h7 h8 go) (K7 hen gs hmod) (by rw [hmod];exact gd.set vx vy g2)
    refine ⟨_,?_,rho,p1,p2⟩
    rw [hex]
    simp only [hcm,Instr.mapUpdate,Sem.run_bind,run_underlying hu,Result.andThen_ok,gv g1 (by simp),run_checkKey hd1 hd2,run_findKey hd1 f1,WJ,hen,Option.map_some,Option.getD_some,Instr.keyThatStays,f5,if_true,Sem.run_pure,nK g1 (by simp)]
   .have f1:=qk vx hd2 0 (λp hp=>h7 p (gp.mem_iff.1 hp)) hka' g2
    obtain ⟨p1,p2⟩:=hp.qp (ents:=ents.push {key:=a.eval x,val:=a.eval y,born:=clock }) hes hr g1 h6
     (List.perm_append_singleton _ _ |>.trans ((gp.cons _).trans h8.symm)) (Se h7 h8 hxs hka go) (Iq gs) (by rw [YN1];exact gd.snoc vx vy g2)
    refine ⟨_,?_,rho,p1,p2⟩
    rw [hex]
    simp only [hcm,Instr.mapUpdate,Sem.run_bind,run_underlying hu,Result.andThen_ok,gv g1 (by simp),run_checkKey hd1 hd2,run_findKey hd1 f1,nK g1 (by simp)]
  .exact (av h).elim
 .exact (av h).elim
end
end Go.Ev
end
section
namespace Go.Ev
open Go.RowKit
section
variable {P:Program} {nt:Nat} {o:Oper} {id:Nat} {ph:cU} {e:Env} {H:Heap} {k:K}
theorem FSp.op {x:V} {args:List V} {v:V} {H':Heap} {f:Operand} {asL:Array Operand} {ts:Array TypeId} (h:FSp P x args H v H') (hop:o.op = .call {callee:=.value f,args:=asL,argTypes:=ts })
 (hx:∀ (m:M) (ac:Act),OR m nt e ac o->VR m x (ac.eval f)) (ha:∀ (m:M) (ac:Act),OR m nt e ac o->cm m args (asL.map ac.eval).toList):fq P nt o e H v H':=by
 intro rd base w0 rho w a hp ho
 refine ⟨iD P o a w rd,?_⟩
 rw [semAt_eq (by simp [hop])]
 have hex:execOp a.eval o=(do let d <- Deferred.ofValue (a.eval f) (asL.map a.eval);invoke d.target d.args):=by
  simp only [execOp,hop]
  rfl
 rw [hex]
 exact h rd base w0 rho w (a.eval f) (asL.map a.eval) hp (hx _ _ ho) (ha _ _ ho) o a
theorem KP (hph:iY P ph) {f} {asL} {ts} (hop:o.op = .call {callee:=.value (.func f),args:=asL,argTypes:=ts }) (h:aL (ai P nt o) id ph e H k=1):Good P nt o e H k:=by
 simp only [ai,hop]at h
 split at h
 .rename_i l _ hl hf
  have h':Rc (2*f) l id ph e H k=1:=h
  unfold Rc at h'
  rw [ia]at h'
  obtain ⟨v,H',h1,h2⟩:=hph _ _ _ _ h'
  refine ⟨v,H',h1.1.op hop (λm ac ho=>by simp only [Act.eval,VR];exact ⟨#[],by simp,by rfl⟩) (λm ac ho=>?_),h2⟩
  have:=jf hl λx hx=>ho x (by simp [hop,Op.operands,Call.operands];simp_all)
  simp_all
 .exact (av h).elim
theorem Ol (hph:iY P ph) {t} {asL} {ts} (hop:o.op = .call {callee:=.value (.tmp t),args:=asL,argTypes:=ts }) (h:aL (ai P nt o) id ph e H k=1):Good P nt o e H k:=by
 simp only [ai,hop]at h
 split at h
 .rename_i x l hx hl
  have h':JB x l id ph e H k=1:=h
  unfold JB at h'
  rw [aq,ia]at h'
  obtain ⟨v,H',h1,h2⟩:=hph _ _ _ _ h'
  refine ⟨v,H',h1.1.op hop (λm ac ho=>ho _ (by simp [hop,Op.operands,Call.operands]) x hx) (λm ac ho=>?_),h2⟩
  have:=jf hl λx hx=>ho x (by simp [hop,Op.operands,Call.operands];simp_all)
  simp_all
 .exact (av h).elim
theorem fH {b} {asL} {ts} (hop:o.op = .call {callee:=.builtin b,args:=asL,argTypes:=ts }) (r):
 execOp r o=builtin b ts o.type (asL.map λ| .const _=>true|_=>false) (asL.map r):=by
 simp only [execOp,hop]
 rfl
theorem Pf {asL} {x} (h:bU nt asL.toList=some [x]):∃ y,asL = #[y]/\aH nt y=some x:=by
 obtain ⟨l⟩:=asL
 cases l with
 | nil=>simp [bU]at h
 | cons y l=>
  cases l with
  | nil=>
   simp only [bU]at h
   grind
  | cons z l=>
   simp only [bU]at h
   grind
theorem Ea {asL} {x y} (h:bU nt asL.toList=some [x,y]):∃ p q,asL = #[p,q]/\aH nt p=some x/\aH nt q=some y:=by
 obtain ⟨l⟩:=asL
 cases l with
 | nil=>simp [bU]at h
 | cons p l=>
  simp only [bU]at h
  split at h
  .rename_i a r h1 h2
   obtain ⟨rfl,rfl⟩:=h
   obtain ⟨q,hq,h3⟩:=Pf h2
   grind
  simp_all
theorem ab6 {asL} {x y z} (h:bU nt asL.toList=some [x,y,z]):∃ p q r,asL = #[p,q,r]/\aH nt p=some x/\aH nt q=some y/\aH nt r=some z:=by
 obtain ⟨l⟩:=asL
 cases l with
 | nil=>simp [bU]at h
 | cons p l=>
  simp only [bU]at h
  split at h
  .rename_i a r h1 h2
   obtain ⟨rfl,rfl⟩:=h
   obtain ⟨q,r,hq,h3,h4⟩:=Ea h2
   grind
  simp_all
theorem toI_64' {n} (h:n<9223372036854775808):toI .i64 n=n:=toI_small _ _ (by simp [half,IntKind.signed,IntKind.bits];omega)
theorem pX {m} {n} (h:n<9223372036854775808):VR m (.int 3 n) (goInt n):=by
 exact ⟨by show Value.int .i64 (n:Int)=Value.int .i64 (toI .i64 n);rw [toI_64' h],by show n<2 ^ 64;omega,by omega⟩
theorem Ct:∀ es:List (V × V),NL es=es.length
 | []=>rfl
 | _ :: es=>congrArg WN (Ct es)
theorem Sm {x} {f} (h:Sl id x f=1):∃ n,f n=1/\∀ (m) (c),VR m x c->∀ w:World,(Builtin.lenOf c).run P w = .ok n w:=by
 cases x<;>first|exact (av h).elim|skip
 .exact ⟨_,h,λm c v w=>by rw [v.1];simp [Builtin.lenOf,ByteArray.size,aK]⟩
 .exact ⟨_,h,λm c v w=>by obtain ⟨c1,cap,o',sp,rfl,_⟩:=v;rfl⟩
 .exact ⟨_,h,λm c v w=>by rw [v];rfl⟩
theorem qo {n} (h:lj id n H k=1):n<9223372036854775808/\k (.int 3 n) H=1:=by
 obtain ⟨h1,h2⟩:=aQ h
 simp_all
theorem aeQ {asL:Array Operand} {ts:Array TypeId} (hop:o.op = .call {callee:=.builtin .len,args:=asL,argTypes:=ts }) (h:aL (ai P nt o) id ph e H k=1):Good P nt o e H k:=by
 simp only [ai,hop,dg]at h
 have hnd:∀ c,o.op ≠ .defer c:=by simp [hop]
 split at h
 .rename_i x t tr hx hts
  obtain ⟨y,rfl,hy⟩:=Pf hx
  have hts':ts[0]? = some t:=by rw [<- Yw,hts];rfl
  have fin:∀ n:Nat,n<9223372036854775808->k (.int 3 n) H=1->(∀ (base:Nat) (w0:World) (rho:Nat->Option Nat) (w:World) (a:Act),PR P base w0 rho H w->VR (mu rho H w) (ay x e) (a.eval y)->(Builtin.len_ ts o.type #[a.eval y]).run P w = .ok (goInt n) w)->Good P nt o e H k:=by
   intro n hn hk hr
   refine ⟨_,_,fq.of_run hnd λbase w0 rho w a hp ho=>?_,hk⟩
   have v:=ho y (by simp [hop,Op.operands,Call.operands]) x hy
   refine ⟨goInt n,w,?_,rho,pX hn,hp,Ext.refl hp.lt⟩
   rw [fH hop a.eval]
   simp [builtin,hr base w0 rho w a hp v]
  split at h
  .rename_i hu
   have h':Rl x id ph e H k=1:=h
   unfold Rl at h'
   rw [aq]at h'
   obtain ⟨l,q,hq,h1⟩:=eD h'
   obtain ⟨h2,h3⟩:=qo h1
   refine fin l h2 h3 λbase w0 rho w a hp v=>?_
   rw [hq]at v
   simp only [VR]at v
   have hs:(⟨(aB l q).toArray⟩:ByteArray).size=l:=by simp [ByteArray.size,aK]
   simp [Builtin.len_,hts',run_underlying hu,v.1,hs]
  .rename_i el hu
   have h':Rj x id ph e H k=1:=h
   unfold Rj at h'
   rw [aq]at h'
   rcases fP h' with ⟨b,off,l,cp,sz,hq,h1⟩|⟨hq,h1⟩
   .obtain ⟨h2,h3⟩:=qo h1
    refine fin l h2 h3 λbase w0 rho w a hp v=>?_
    rw [hq]at v
    obtain ⟨c1,cap,o',sp,hc,_⟩:=v
    simp [Builtin.len_,hts',run_underlying hu,hc]
   .obtain ⟨h2,h3⟩:=qo h1
    refine fin 0 h2 h3 λbase w0 rho w a hp v=>?_
    rw [hq]at v
    simp only [VR]at v
    simp [Builtin.len_,hts',run_underlying hu,v]
  .rename_i kt el hu
   have h':Rk x id ph e H k=1:=h
   unfold Rk at h'
   rw [aq]at h'
   rcases IA h' with ⟨b,hq,h1⟩|⟨hq,h1⟩
   .rw [aV]at h1
    obtain ⟨es,hes,h2⟩:=vE h1
    rw [aw,Ct]at h2
    obtain ⟨h3,h4⟩:=qo h2
    refine fin _ h3 h4 λbase w0 rho w a hp v=>?_
    rw [hq]at v
    obtain ⟨c,hc,hmu⟩:=v
    obtain ⟨hr,ents,clock,es',g1,gp,go,g2,_⟩:=hp.ya hes hmu
    have hl:ents.size=es.length:=by have:=g2.1.length;rw [<- gp.length_eq];grind
    simp [Builtin.len_,hts',run_underlying hu,hc,gv g1,hl]
   .obtain ⟨h2,h3⟩:=qo h1
    refine fin 0 h2 h3 λbase w0 rho w a hp v=>?_
    rw [hq]at v
    simp only [VR]at v
    simp [Builtin.len_,hts',run_underlying hu,v]
  .exact (av h).elim
 .exact (av h).elim
theorem qy {t el} (h:ug P t=some el):P.underlying t=some (.slice el):=by
 unfold ug at h
 grind
theorem aeP {asL} {ts} (hop:o.op = .call {callee:=.builtin .cap,args:=asL,argTypes:=ts }) (h:aL (ai P nt o) id ph e H k=1):Good P nt o e H k:=by
 simp only [ai,hop,dg]at h
 have hnd:∀ c,o.op ≠ .defer c:=by simp_all
 split at h
 .rename_i x t tr hx hts
  obtain ⟨y,rfl,hy⟩:=Pf hx
  have hts':ts[0]? = some t:=by rw [<- Yw,hts];rfl
  split at h
  .rename_i el hel
   have hu:=qy hel
   have h':aaf x id ph e H k=1:=h
   unfold aaf at h'
   rw [aq]at h'
   have fin:∀ n,n<9223372036854775808->k (.int 3 n) H=1->(∀ (m) (w) (a:Act),VR m (ay x e) (a.eval y)->(Builtin.cap_ ts o.type #[a.eval y]).run P w = .ok (goInt n) w)->Good P nt o e H k:=by
    intro n hn hk hr
    refine ⟨_,_,fq.bH hnd λm w a ho=>?_,hk⟩
    have v:=ho y (by simp [hop,Op.operands,Call.operands]) x hy
    refine ⟨goInt n,?_,pX hn⟩
    rw [fH hop a.eval]
    simp [builtin,hr m w a v]
   rcases fP h' with ⟨b,off,l,cp,sz,hq,h1⟩|⟨hq,h1⟩
   .cases cp with
    | zero=>exact (av h1).elim
    | succ q=>
     obtain ⟨h2,h3⟩:=aQ (show aF (Yx q 9223372036854775808) (k (.int 3 q) H) (no _)=1 from h1)
     refine fin q (eO h2) h3 λm w a v=>?_
     rw [hq]at v
     obtain ⟨c1,cap,o',sp,hc,_,_,hcp,_⟩:=v
     have:=hcp.1 q rfl
     subst this
     simp [Builtin.cap_,hts',run_underlying hu,hc]
   .refine fin 0 (by omega) h1 λm w a v=>?_
    rw [hq]at v
    simp only [VR]at v
    simp [Builtin.cap_,hts',run_underlying hu,v]
  .exact (av h).elim
 .exact (av h).elim
theorem aan {kd oo mo} {mx} {x y} (h:eMm kd oo mo mx x y id ph e H k=1):∃ a b,ay x e = .int kd a/\ay y e = .int kd b/\k (.int kd (if mx then (if (a+oo)%mo<=(b+oo)%mo then b else a) else (if (a+oo)%mo<=(b+oo)%mo then a else b))) H=1:=by
 unfold eMm at h
 rw [aq]at h
 obtain ⟨k1,a,ha,h1⟩:=dK h
 rw [aq]at h1
 obtain ⟨k2,b,hb,h2⟩:=dK h1
 obtain ⟨h3,h4⟩:=aQ h2
 obtain ⟨h5,h6⟩:=aQ h4
 have e1:=cI h3
 have e2:=cI h5
 subst e1 e2
 refine ⟨a,b,ha,hb,?_⟩
 rcases bP h6 with ⟨h7,h8⟩|⟨h7,h8⟩
 .have hle:(a+oo)%mo<=(b+oo)%mo:=cA h7
  rcases bP h8 with ⟨h9,h10⟩|⟨h9,h10⟩<;>subst h9<;>simpa [hle] using h10
 .have hle:¬ (a+oo)%mo<=(b+oo)%mo:=λhle=>by
   have:YX ((a.add oo).mod mo) ((b.add oo).mod mo)=true:=WV hle
   simp_all
  rcases bP h8 with ⟨h9,h10⟩|⟨h9,h10⟩<;>subst h9<;>simpa [hle] using h10
def sJ (mx:Bool) (oo mo a b:Nat):Nat:=if mx then (if (a+oo)%mo<=(b+oo)%mo then b else a) else (if (a+oo)%mo<=(b+oo)%mo then a else b)
theorem J6 (mx) (oo mo a b):sJ mx oo mo a b=a\/sJ mx oo mo a b=b:=by
 unfold sJ
 grind
theorem yq {oo mo} {mx} {a b} {f}:Hk oo mo mx a b f=f (sJ mx oo mo a b):=by
 unfold Hk sJ
 have hb:(YX ((a.add oo).mod mo) ((b.add oo).mod mo)=true)↔(a+oo)%mo<=(b+oo)%mo:=⟨λh=>Nat.le_of_ble_eq_true h,λh=>WV h⟩
 by_cases hle:(a+oo)%mo<=(b+oo)%mo
 .rw [hb.2 hle]
  cases mx
  .simp only [YT,if_false,if_pos hle];rfl
  .simp only [if_true,if_pos hle];rfl
 .have:YX ((a.add oo).mod mo) ((b.add oo).mod mo)=false:=by
   grind
  rw [this]
  cases mx
  .simp only [YT,if_false,if_neg hle];rfl
  .simp only [if_true,if_neg hle];rfl
theorem MA {kx} {a b} (mx:Bool) (ha:a<eg kx) (hb:b<eg kx):(if mx then Builtin.max2 else Builtin.min2) (.int kx (toI kx a)) (.int kx (toI kx b))=pure (.int kx (toI kx (sJ mx (fL kx) (2 ^ kx.bits) a b))):=by
 have oa:=toI_off kx a ha
 have ob:=toI_off kx b hb
 cases mx
 .simp only [YT,if_false,Builtin.min2,sJ]
  grind
 .simp only [if_true,Builtin.max2,sJ]
  grind
theorem Vd {kd oo mo} {mx} {x y z} (h:Vc kd oo mo mx x y z id ph e H k=1):∃ a b c,ay x e = .int kd a/\ay y e = .int kd b/\ay z e = .int kd c/\k (.int kd (sJ mx oo mo (sJ mx oo mo a b) c)) H=1:=by
 unfold Vc at h
 rw [aq]at h
 obtain ⟨k1,a,ha,h1⟩:=dK h
 rw [aq]at h1
 obtain ⟨k2,b,hb,h2⟩:=dK h1
 rw [aq]at h2
 obtain ⟨k3,c,hc,h3⟩:=dK h2
 obtain ⟨g1,g2⟩:=aQ h3
 obtain ⟨g3,g4⟩:=aQ g2
 obtain ⟨g5,g6⟩:=aQ g4
 rw [yq,yq]at g6
 simp_all
theorem aeR {mx:Bool} {asL:Array Operand} {ts:Array TypeId} (hop:o.op = .call {callee:=.builtin (if mx then .max else .min),args:=asL,argTypes:=ts }) (h:aL (ai P nt o) id ph e H k=1):Good P nt o e H k:=by
 have hnd:∀ c,o.op ≠ .defer c:=by simp [hop]
 have hc:ai P nt o=match bU nt asL.toList,ts.toList with
  | some [x,y],t :: _=>(match kindOf P t with | some k=>.mm (lT k) (fL k) (2 ^ k.bits) mx x y | none=>.bad)
  | some [x,y,z],t :: _=>(match kindOf P t with | some k=>.mm3 (lT k) (fL k) (2 ^ k.bits) mx x y z | none=>.bad)
  | _,_=>.bad:=by cases mx<;>simp only [ai,hop,dg,if_true,YT,if_false]<;>rfl
 have r2:∀ {kx:IntKind} {a b:Nat},mx=false->a<eg kx->b<eg kx->Builtin.min2 (.int kx (toI kx a)) (.int kx (toI kx b))=pure (.int kx (toI kx (sJ false (fL kx) (2 ^ kx.bits) a b))):=λ_ ha hb=>MA false ha hb
 have r1:∀ {kx:IntKind} {a b:Nat},mx=true->a<eg kx->b<eg kx->Builtin.max2 (.int kx (toI kx a)) (.int kx (toI kx b))=pure (.int kx (toI kx (sJ true (fL kx) (2 ^ kx.bits) a b))):=λ_ ha hb=>MA true ha hb
 rw [hc]at h
 split at h
 .rename_i x y t tr hx hts
  obtain ⟨p,q,rfl,hp',hq'⟩:=Ea hx
  split at h
  .rename_i kx hkx
   have h':eMm (lT kx) (fL kx) (2 ^ kx.bits) mx x y id ph e H k=1:=h
   obtain ⟨a,b,ha,hb,h1⟩:=aan h'
   refine ⟨_,_,fq.bH hnd λm w ac ho=>?_,h1⟩
   have vx:=ho p (by simp [hop,Op.operands,Call.operands]) x hp'
   have vy:=ho q (by simp [hop,Op.operands,Call.operands]) y hq'
   rw [ha]at vx
   rw [hb]at vy
   simp only [VR,dI]at vx vy
   refine ⟨.int kx (toI kx (sJ mx (fL kx) (2 ^ kx.bits) a b)),?_,?_⟩
   .rw [fH hop ac.eval]
    cases mx
    .simp only [YT,if_false,builtin,Builtin.min_,vx.1,vy.1,YB3,YP,Yc,YB4,YD1,r2 rfl vx.2.1 vy.2.1,Sem.run_bind,Sem.run_pure,Result.andThen_ok]
    .simp only [if_true,builtin,Builtin.max_,vx.1,vy.1,YB3,YP,Yc,YB4,YD1,r1 rfl vx.2.1 vy.2.1,Sem.run_bind,Sem.run_pure,Result.andThen_ok]
   .show VR m (.int (lT kx) (sJ mx (fL kx) (2 ^ kx.bits) a b)) _
    simp only [VR,dI]
    refine ⟨trivial,?_,xU kx⟩
    rcases J6 mx (fL kx) (2 ^ kx.bits) a b with h|h<;>rw [h]
    .exact vx.2.1
    grind
  .exact (av h).elim
 .rename_i x y z t tr hx hts
  obtain ⟨p,q,r,rfl,hp',hq',hr'⟩:=ab6 hx
  split at h
  .rename_i kx hkx
   have h':Vc (lT kx) (fL kx) (2 ^ kx.bits) mx x y z id ph e H k=1:=h
   obtain ⟨a,b,c,ha,hb,hc,h1⟩:=Vd h'
   refine ⟨_,_,fq.bH hnd λm w ac ho=>?_,h1⟩
   have vx:=ho p (by simp [hop,Op.operands,Call.operands]) x hp'
   have vy:=ho q (by simp [hop,Op.operands,Call.operands]) y hq'
   have vz:=ho r (by simp [hop,Op.operands,Call.operands]) z hr'
   rw [ha]at vx
   rw [hb]at vy
   rw [hc]at vz
   simp only [VR,dI]at vx vy vz
   have hm1:sJ mx (fL kx) (2 ^ kx.bits) a b<eg kx:=by
    rcases J6 mx (fL kx) (2 ^ kx.bits) a b with h|h<;>rw [h]
    .exact vx.2.1
    grind
   refine ⟨.int kx (toI kx (sJ mx (fL kx) (2 ^ kx.bits) (sJ mx (fL kx) (2 ^ kx.bits) a b) c)),?_,?_⟩
   .rw [fH hop ac.eval]
    cases mx
    .simp only [YT,if_false,builtin,Builtin.min_,vx.1,vy.1,vz.1,YB3,YP,Yc,YB4,YD1,r2 rfl vx.2.1 vy.2.1,r2 rfl hm1 vz.2.1,Sem.run_bind,Sem.run_pure,Result.andThen_ok]
    .simp only [if_true,builtin,Builtin.max_,vx.1,vy.1,vz.1,YB3,YP,Yc,YB4,YD1,r1 rfl vx.2.1 vy.2.1,r1 rfl hm1 vz.2.1,Sem.run_bind,Sem.run_pure,Result.andThen_ok]
   .simp only [VR,dI]
    refine ⟨trivial,?_,xU kx⟩
    rcases J6 mx (fL kx) (2 ^ kx.bits) (sJ mx (fL kx) (2 ^ kx.bits) a b) c with h|h<;>rw [h]
    .exact hm1
    grind
  .exact (av h).elim
 .exact (av h).elim
end
end Go.Ev
end
section
namespace Go.Ev
open Go.RowKit
section
variable {P:Program} {nt:Nat} {o:Oper} {id:Nat} {ph:cU} {e:Env} {H:Heap} {k:K}
theorem MH {m}:VR m (.cH []) (.tuple #[]):=by
 exact ⟨#[],rfl,by rfl⟩
theorem Tp {asL} {ts} (hop:o.op = .call {callee:=.builtin .delete,args:=asL,argTypes:=ts }) (h:aL (ai P nt o) id ph e H k=1):Good P nt o e H k:=by
 simp only [ai,hop,dg]at h
 have hnd:∀ c,o.op ≠ .defer c:=by simp_all
 split at h
 .rename_i m' x' t tr hx hts
  obtain ⟨mm,x,rfl,hm,hx⟩:=Ea hx
  have hts':ts[0]? = some t:=by rw [<- Yw,hts];rfl
  split at h
  .rename_i kt el hu
   split at h
   .rename_i ks hks
    obtain ⟨d,hd1,hd2⟩:=Cr hks
    have h':Ro ks m' x' id ph e H k=1:=h
    unfold Ro at h'
    rw [aq,aq]at h'
    obtain ⟨b,hb,h1⟩:=MG h'
    rw [aV]at h1
    obtain ⟨es,hes,h2⟩:=vE h1
    obtain ⟨es2,h3,hkd,h4⟩:=L6 h2
    obtain ⟨H',h5,h6⟩:=ib h3
    refine ⟨_,_,fq.of_run hnd λbase w0 rho w a hp ho=>?_,h5⟩
    have vm:=ho mm (by simp [hop,Op.operands,Call.operands]) m' hm
    rw [hb]at vm
    obtain ⟨c,hcm,hmu⟩:=vm
    obtain ⟨hr,ents,clock,es',g1,gp,go,g2,gs⟩:=hp.ya hes hmu
    have hka:=Cq hkd go
    have hka':=λp hp=>hka p (gp.mem_iff.1 hp)
    have vx:=ho x (by simp [hop,Op.operands,Call.operands]) x' hx
    rcases h4 with ⟨v,h7⟩|⟨h7,rfl⟩
    .obtain ⟨i,cv,en,f1,f2,f3,f4,f5⟩:=sC vx hd2 0 ((gp.trans h7).mem_iff.2 (YJ ..)) (keys_perm gp go).1 hka' g2
     obtain ⟨p1,p2⟩:=hp.qp (ents:=ents.eraseIdxIfInBounds i) hes hr g1 h6 ((nE f3).symm.trans (gp.trans h7)).cons_inv (keys_perm h7.symm go).tail (De (i:=i) gs (by
      simp)) (by
      have hlt:=by simpa using (Yo.1 f4).1
      rw [Array.eraseIdxIfInBounds,dif_pos hlt,Array.toList_eraseIdx];exact gd.erase g2)
     refine ⟨.tuple #[],_,?_,rho,MH,p1,p2⟩
     rw [fH hop a.eval]
     simp [builtin,Builtin.delete_,hts',run_underlying hu,hcm,gv g1,run_checkKey hd1 hd2,run_findKey hd1 f1,nK g1]
    .have f1:=qk vx hd2 0 (λp hp=>h7 p (gp.mem_iff.1 hp)) hka' g2
     obtain ⟨p1,p2⟩:=hp.qp hes hr g1 h6 gp go gs g2
     refine ⟨.tuple #[],_,?_,rho,MH,p1,p2⟩
     rw [fH hop a.eval]
     simp [builtin,Builtin.delete_,hts',run_underlying hu,hcm,gv g1,run_checkKey hd1 hd2,run_findKey hd1 f1,nK g1]
   .exact (av h).elim
  .exact (av h).elim
 .exact (av h).elim
def lK (P:Program) (H:Heap) (size:Nat) (x:V) (n:Nat) (l:List V):Prop:=
 (∀ (m:M) (c:Value),VR m x c->∀ w:World,(Builtin.lenOf c).run P w = .ok n w)/\
 ∀ {base:Nat} {w0 w:World} {rho:Nat->Option Nat} {c:Value},PR P base w0 rho H w->VR (mu rho H w) x c->l.length=n*size/\∀ n',n'<=n->∃ cs:List Value,(Builtin.firstCells size n' c).run P w = .ok cs.toArray w/\cm (mu rho H w) (l.take (n'*size)) cs
theorem sG {m} {c} {w}:
 (∀ b o l cp sz,VR m (.slice b o l cp sz) c->(Builtin.lenOf c).run P w = .ok l w)/\(VR m .az c->(Builtin.lenOf c).run P w = .ok 0 w)/\(∀ l n,VR m (.str l n) c->(Builtin.lenOf c).run P w = .ok l w):=by
 refine ⟨λb o l cp sz v=>?_,λv=>?_,λl n v=>?_⟩
 .obtain ⟨c1,cap,o',sp,rfl,_⟩:=v;rfl
 .rw [v];rfl
 .rw [v.1];simp [Builtin.lenOf,ByteArray.size,aK]
theorem HI {bl} {row} (h:rowOf bl=some row):nW bl=some row:=by
 cases bl<;>first|exact h|(simp [rowOf]at h)
theorem PR.sY {base:Nat} {w0 w:World} {rho:Nat->Option Nat} (hp:PR P base w0 rho H w) {b o' off c n:Nat} {row:List V} (hm:(mu rho H w).b b c) (hrow:nW (H.get b)=some row) (hn:off+n<=row.length) (hv:(∀ v ∈ (row.drop off).take n,v.one=true)\/rowOf (H.get b)=some row) {sp:Option _} (ho:o'=off/\sp=none\/n=0):
 ∃ cs:List Value,(loadCells ⟨c,o',sp⟩ n).run P w = .ok cs.toArray w/\cm (mu rho H w) ((row.drop off).take n) cs:=by
 rcases ho with ⟨rfl,rfl⟩|rfl
 .obtain ⟨cs,h1,h2,_⟩:=hp.KH (hp.yC hm hrow) hrow hn hv
  exact ⟨cs,h1,h2⟩
 .exact ⟨[],rfl,by simp only [WK,cm]⟩
theorem PR.pT {base:Nat} {w0 w:World} {rho:Nat->Option Nat} (hp:PR P base w0 rho H w) {b o' off c n:Nat} {row:List V} (hm:(mu rho H w).b b c) (hrow:rowOf (H.get b)=some row) (hn:off+n<=row.length) {sp:Option _} (ho:o'=off/\sp=none\/n=0):
 ∃ cs:List Value,(loadCells ⟨c,o',sp⟩ n).run P w = .ok cs.toArray w/\cm (mu rho H w) ((row.drop off).take n) cs:=hp.sY hm (HI hrow) hn (YE hrow) ho
theorem GY {len n}:lK P H 1 (.str len n) len ((aB len n).map eN):=by
 refine ⟨λm c v w=>sG.2.2 _ _ v,λ{base w0 w rho c} hp v=>⟨by simp [aK],λn' hn=>?_⟩⟩
 refine ⟨((aB len n).take n').map λy=>Value.int .u8 y.toNat,?_,?_⟩
 .rw [v.1]
  simp only [Builtin.firstCells,Sem.run_pure]
  simp
 .rw [WS,<- Qu]
  exact cm.pO (by simp) λi v' c' g1 g2=>by
   rw [Yg,Ye]at g1 g2
   obtain ⟨y,hy,rfl⟩:=g1
   obtain ⟨y',hy',rfl⟩:=g2
   rw [hy]at hy'
   cases hy'
   exact vD _ y
theorem yf {b off len cp sz size} {row} (h1:nW (H.get b)=some row) (h2:off+len*size<=row.length) (hv:(∀ v ∈ (row.drop off).take (len*size),v.one=true)\/rowOf (H.get b)=some row):lK P H size (.slice b off len cp sz) len ((row.drop off).take (len*size)):=by
 refine ⟨λm c v w=>sG.1 _ _ _ _ _ v,λ{base w0 w rho c} hp v=>⟨by grind,λn' hn=>?_⟩⟩
 obtain ⟨c1,cap,o',sp,rfl,hm,hle,hcp,ho'⟩:=v
 have hns:n'*size<=len*size:=QU _ hn
 obtain ⟨cs,g1,g2⟩:=hp.sY (o':=o') (sp:=sp) (off:=off) (n:=n'*size) hm h1 (by omega) (hv.imp (λh v hm=>h v (by
  rw [show (row.drop off).take (n'*size)=((row.drop off).take (len*size)).take (n'*size) by grind]at hm
  grind)) id) (by
  grind)
 refine ⟨cs,by simpa [Builtin.firstCells] using g1,?_⟩
 grind
theorem AN {size}:lK P H size .az 0 []:=by
 refine ⟨λm c v w=>sG.2.1 v,λ{base w0 w rho c} hp v=>⟨by simp,λn' hn=>?_⟩⟩
 have:n'=0:=by omega
 subst this
 exact ⟨[],by rw [v];rfl,by simp only [Wp,WK,cm]⟩
theorem Ka {size b off cp sz}:lK P H size (.slice b off 0 cp sz) 0 []:=by
 refine ⟨λm c v w=>sG.1 _ _ _ _ _ v,λ{base w0 w rho c} hp v=>⟨by simp,λn' hn=>?_⟩⟩
 obtain ⟨c1,cap,o',sp,rfl,hm,hle,hcp,ho'⟩:=v
 have:n'=0:=by omega
 subst this
 refine ⟨[],?_,by simp only [Wp,WK,cm]⟩
 simp only [Builtin.firstCells,Wp]
 rfl
theorem pJ {size} {x} {f} (h:cT id size H x f=1):∃ n l,f n l=1/\lK P H size x n l:=by
 cases x<;>first|exact (av h).elim|skip
 .have h':=h
  obtain ⟨h1,h2⟩:=aQ h'
  have:=cI h1
  subst this
  rw [iR]at h2
  exact ⟨_,_,h2,GY⟩
 .rename_i b off len cp sz
  cases len with
  | zero=>exact ⟨0,[],h,Ka⟩
  | succ len=>
   have h':=h
   obtain ⟨row,h1,h2,hv,h3⟩:=KI h'
   exact ⟨_,_,h3,yf h1 h2 hv⟩
 .exact ⟨0,[],h,AN⟩
theorem GX {x} {f} (h:ye id H x f=1):∃ n y l,f n y=1/\lK P H 1 x n l/\(∀ v ∈ l,v.one=true)/\∀ (m) (c),VR m x c->Bq l->Bo l y:=by
 cases x<;>first|exact (av h).elim|skip
 .rename_i len n
  refine ⟨len,n,_,h,GY,λv hv=>by obtain ⟨y,_,rfl⟩:=Yi.1 hv;rfl,λm c v _=>?_⟩
  exact ⟨by simp [aK],by simpa [aK] using v.2⟩
 .rename_i b off len cp sz
  have h':=h
  obtain ⟨row,y,h1,h2,h3,h4,h5⟩:=xZ h'
  have hN:=yf (P:=P) (cp:=cp) (sz:=sz) (HI h1) (show off+len*1<=row.length by omega) (YE h1)
  rw [WS]at hN
  exact ⟨len,y,_,h3,hN,λv hv=>by obtain ⟨x,rfl⟩:=h4 v hv;rfl,λ_ _ _ hs=>h5 hs⟩
 .exact ⟨0,0,[],h,AN,λv hv=>absurd hv (by simp),λ_ _ _ _=>⟨rfl,by simp⟩⟩
theorem Aw {n} (hn:n<=1073741824):∀ (r c),c<=2147483648->Builtin.growBy n r c<=2147483648
 | 0,c,h=>h
 | r+1,c,h=>by
  simp only [Builtin.growBy]
  split
  .omega
  .exact Aw hn r _ (by omega)
theorem VE {need cap} (hn:need<=1073741824) (hc:cap<need):Builtin.nextslicecap need cap<=2147483648:=by
 unfold Builtin.nextslicecap
 split
 .omega
 .split
  .omega
  .exact Aw hn 4 cap (by omega)
theorem SI {d:TypeDesc} (h:∀ k,d ≠ .int k):(match d with | .int _=>true|_=>false)=false:=by simp
structure IQ (P:Program) (ts:Array TypeId) (el:TypeId) (size:Nat) (i:TypeInfo) (zv:Value):Prop where
 t0:∃ st,ts[0]? = some st/\P.underlying st=some (.slice el)
 t1:∃ xt d,ts[1]? = some xt/\P.underlying xt=some d/\∀ k,d ≠ .int k
 info:P.info? el=some i
 isz:i.size=size
 bytes:i.bytes<=65536
 zero:i.zero=some zv
 ae6:zv.cells.size=size
theorem iW {ts} {el} {size} {i} {zv} (hT:IQ P ts el size i zv) {ot} {base} {sLen sCap n} {x} {new:List Value} {w w'}
 (hn:(Builtin.lenOf x).run P w = .ok n w) (hf:(Builtin.firstCells size n x).run P w = .ok new.toArray w) (hle:sLen+n<=sCap)
 (hst:match base with|some a=>(storeCells (a.add (sLen*size)) new).run P w = .ok () w'|none=>w'=w):
 (Builtin.append_ ts ot #[.slice base sLen sCap,x]).run P w = .ok (.slice base (sLen+n) sCap) w':=by
 obtain ⟨st,h1,h2⟩:=hT.t0
 obtain ⟨xt,d,h3,h4,h5⟩:=hT.t1
 have hz:=SI h5
 have hsz:(sizeOf el).run P w = .ok size w:=by simp [sizeOf,typeInfo,hT.info,hT.isz]
 cases base with
 | none=>
  subst hst
  simp only [Builtin.append_,h1,h3]
  simp [run_underlying h2,run_underlying h4,hsz,hn,hle,hf]
 | some a=>
  simp [Builtin.append_,h1,h3,run_underlying h2,run_underlying h4,hsz,hn,hle,hf,hst]
theorem run_append_grow {ts:Array TypeId} {el:TypeId} {size:Nat} {i:TypeInfo} {zv:Value} (hT:IQ P ts el size i zv) {ot:TypeId} {base:Option Addr} {sLen sCap n:Nat} {x:Value} {old new:List Value} {w:World}
 (hn:(Builtin.lenOf x).run P w = .ok n w) (hlt:sCap<sLen+n) (hb:sLen+n<=1073741824)
 (ho:(Builtin.firstCells size sLen (.slice base sLen sCap)).run P {w with drawn:=w.drawn+1 } = .ok old.toArray {w with drawn:=w.drawn+1 })
 (hf:(Builtin.firstCells size n x).run P {w with drawn:=w.drawn+1 } = .ok new.toArray {w with drawn:=w.drawn+1 }):
 ∃ cap w' rest,(sLen+n<=cap/\cap<9223372036854775808)/\rest.size=(cap-(sLen+n))*size/\(Builtin.append_ ts ot #[.slice base sLen sCap,x]).run P w = .ok (.slice (some ⟨w.heap.size,0,none⟩) (sLen+n) cap) w'/\IY w w'/\w'.heap=w.heap.push (.cells (old.toArray ++ new.toArray ++ rest) el):=by
 obtain ⟨st,h1,h2⟩:=hT.t0
 obtain ⟨xt,d,h3,h4,h5⟩:=hT.t1
 have hz:=SI h5
 have hsz:(sizeOf el).run P w = .ok size w:=by simp [sizeOf,typeInfo,hT.info,hT.isz]
 have hti:∀ w:World,(typeInfo el).run P w = .ok i w:=λw=>by simp [typeInfo,hT.info]
 have hzr:∀ w:World,(zeroValue el).run P w = .ok zv w:=λw=>by simp [zeroValue,typeInfo,hT.info,hT.zero]
 have hnle:¬ sLen+n<=sCap:=by omega
 have hbig:¬ (((sLen+n:Nat):Int)>IntKind.i64.max/\((false=true)\/i.bytes=0)):=by
  rintro ⟨h6,_⟩
  simp [IntKind.max,IntKind.signed,IntKind.bits]at h6
  omega
 have hcap:¬ (Builtin.nextslicecap (sLen+n) sCap*i.bytes>2 ^ 48):=by
  have:=VE hb hlt
  have h7:Builtin.nextslicecap (sLen+n) sCap*i.bytes<=2147483648*65536:=YP2 this hT.bytes
  omega
 have hq:(choose (.appendCap (sLen+n) sCap el)).run P w = .ok ((Question.appendCap (sLen+n) sCap el).cut (w.tape w.drawn (.appendCap (sLen+n) sCap el))) {w with drawn:=w.drawn+1 }:=by
  rw [run_choose];rfl
 have hle:sLen+n<=(Question.appendCap (sLen+n) sCap el).cut (w.tape w.drawn (.appendCap (sLen+n) sCap el))/\(Question.appendCap (sLen+n) sCap el).cut (w.tape w.drawn (.appendCap (sLen+n) sCap el))<9223372036854775808:=by
  have hmod:=QG (w.tape w.drawn (.appendCap (sLen+n) sCap el)) (show 0<2 ^ 63-(sLen+n) by omega)
  simp only [Question.cut]
  omega
 generalize (Question.appendCap (sLen+n) sCap el).cut (w.tape w.drawn (.appendCap (sLen+n) sCap el))=cap at hq hle
 refine ⟨cap,{w with drawn:=w.drawn+1,heap:=w.heap.push (.cells (old.toArray ++ new.toArray ++ Builtin.zeroCells zv.cells (cap-(sLen+n))) el)},Builtin.zeroCells zv.cells (cap-(sLen+n)),hle,by simp [Builtin.zeroCells,hT.ae6],?_,⟨rfl,rfl,rfl⟩,rfl⟩
 have hbig':¬ (IntKind.i64.max<(((sLen+n:Nat)):Int)/\i.bytes=0):=λh=>hbig ⟨h.1,YE h.2⟩
 have hcap':¬ (2 ^ 48<Builtin.nextslicecap (sLen+n) sCap*i.bytes):=hcap
 unfold Builtin.append_
 simp only [h1,List.getElem?_toArray,List.getElem?_cons_zero,List.getElem?_cons_succ]
 simp only [h3,Sem.run_bind,run_underlying h2,run_underlying h4,hsz,Result.andThen_ok,Sem.run_pure,YT,if_false,hn,hnle,hti,hcap,hq,run_askRoom,Sem.run_ite,Bool.not_false,if_true,ho,hf,hzr,newRow,run_newObj]
 simp_all
theorem UL {st xt el} {s'} {i} {asL} (hts:asL.toList=[st,xt]) (hel:ug P st=some el) (hs:qI P el=some s') (hi:P.info? el=some i) (hb:i.bytes<=65536) (hz:abJ P el s'=true) (hl:aaU P xt=true):
 ∃ zv,IQ P asL el s' i zv:=by
 obtain ⟨zv,hzv,hzs⟩:∃ zv,i.zero=some zv/\zv.cells.size=s':=by
  unfold abJ at hz
  split at hz
  .rename_i z hzt
   obtain ⟨i',zv,h1,h2,h3,_⟩:=mS hzt
   have:=(h3 ⟨λ_ _=>True,λ_ _=>True⟩).length
   simp_all
  simp_all
 have h0:asL[0]? = some st:=by rw [<- Yw,hts];rfl
 have h1:asL[1]? = some xt:=by rw [<- Yw,hts];rfl
 refine ⟨zv,⟨st,h0,qy hel⟩,?_,hi,by simpa [qI,hi] using hs,hb,hzv,hzs⟩
 unfold aaU at hl
 grind
section app
variable {p q:Operand} {ts:Array TypeId} {s x:Arg} {el:TypeId} {size:Nat} {i:TypeInfo} {zv:Value}
theorem gX (hop:o.op = .call {callee:=.builtin .append,args:=#[p,q],argTypes:=ts }) (hp':aH nt p=some s) (hq':aH nt q=some x) {v} {H'}
 (h:∀ (base) (w0) (rho) (w) (cs cx),PR P base w0 rho H w->VR (mu rho H w) (ay s e) cs->VR (mu rho H w) (ay x e) cx->∃ cv w',(Builtin.append_ ts o.type #[cs,cx]).run P w = .ok cv w'/\Left P base w0 rho H w v H' cv w'):fq P nt o e H v H':=
 fq.of_run (by simp_all) λbase w0 rho w a hp ho=>by
  obtain ⟨cv,w',h1,h2⟩:=h base w0 rho w _ _ hp (ho p (by simp [hop,Op.operands,Call.operands]) s hp') (ho q (by simp [hop,Op.operands,Call.operands]) x hq')
  refine ⟨cv,w',?_,h2⟩
  rw [fH hop a.eval]
  simp [builtin,h1]
theorem rZ (hT:IQ P ts el size i zv) {l} (hN:lK P H size (ay x e) 0 l) (hsl:(∃ b o len cp sz,ay s e = .slice b o len cp sz)\/ay s e = .az) {base} {w0} {rho} {w} {cs cx} (hp:PR P base w0 rho H w) (vs:VR (mu rho H w) (ay s e) cs) (vx:VR (mu rho H w) (ay x e) cx) {ot}:
 ∃ cv w',(Builtin.append_ ts ot #[cs,cx]).run P w = .ok cv w'/\Left P base w0 rho H w (ay s e) H cv w':=by
 have hlen:=hN.1 _ _ vx w
 obtain ⟨_,h2⟩:=hN.2 hp vx
 obtain ⟨cl,h3,h4⟩:=h2 0 (YB _)
 have hcl:=by simp only [Wp,WK,cm]at h4;omega
 subst hcl
 refine ⟨cs,w,?_,rho,vs,hp,Ext.refl hp.lt⟩
 rcases hsl with ⟨b,oo,len,cp,sz,hs⟩|hs<;>rw [hs]at vs<;>simp only [VR]at vs
 .obtain ⟨c,cap,o',sp,rfl,hm,hle,_⟩:=vs
  exact iW hT hlen h3 hle rfl
 .rw [vs]
  exact iW hT hlen h3 (YB _) rfl
theorem rY (hT:IQ P ts el size i zv) {n} {l old} (hN:lK P H size (ay x e) n l) {H'} {bl} (cB:oE H bl H') {base} {w0} {rho} {w} {cx} (hp:PR P base w0 rho H w) (vx:VR (mu rho H w) (ay x e) cx)
 {ba} {sLen sCap} (hold:∀ w1:World,w1.heap=w.heap->PR P base w0 rho H w1->∃ oc:List Value,(Builtin.firstCells size sLen (.slice ba sLen sCap)).run P w1 = .ok oc.toArray w1/\cm (mu rho H w) old oc) (hol:old.length=sLen*size) (hlt:sCap<sLen+n) (hb:sLen+n<=1073741824)
 (hrow:∀ oc nc,cm (mu rho H w) old oc->cm (mu rho H w) l nc->rowOf bl=some (old ++ l)/\(∀ len m,bl = .bytes len m->m<256 ^ len)/\(∀ v ∈ old ++ l,v.one=true)) {ot}:
 ∃ cv w',(Builtin.append_ ts ot #[.slice ba sLen sCap,cx]).run P w = .ok cv w'/\Left P base w0 rho H w (.slice H.n 0 (sLen+n) 0 size) H' cv w':=by
 have hlen:=hN.1 _ _ vx w
 have hpd:=hp.drawn (w.drawn+1)
 obtain ⟨oc,h1,h2⟩:=hold {w with drawn:=w.drawn+1 } rfl hpd
 obtain ⟨hll,h3⟩:=hN.2 hpd vx
 obtain ⟨nc,h4,h5⟩:=h3 n (YB _)
 rw [YV (by omega)]at h5
 obtain ⟨cap,w',rest,g1,g10,g2,g3,g4⟩:=run_append_grow hT hlen hlt hb h1 h4
 obtain ⟨r1,r2,r3⟩:=hrow oc nc h2 h5
 have hR:ju (mu rho H w) (old ++ l) (oc.toArray ++ nc.toArray ++ rest) (0,0):=by
  refine ⟨λj v hj=>⟨r3 v (YS hj),?_⟩,λj _=>by simp⟩
  obtain ⟨c,h6,h7⟩:=(h2.append h5).get hj
  grind
 obtain ⟨rho',p1,p2,p3⟩:=hp.fresh cB r1 r2 hR g3 g4
 exact ⟨_,w',g2,rho',by exact ⟨_,_,_,_,rfl,p3,g1.1,⟨λq hq=>absurd hq (by omega),λ_=>YE ⟨⟨_,_,_,by rw [g4,Qv],by
  have e1:=h2.length
  have e2:=h5.length
  simp only [YN2,YG2,e1,e2,hol,hll,g10,WJ]
  rw [<- Wi,<- Wi]
  simp_all⟩,g1.2⟩⟩,YG ⟨rfl,rfl⟩⟩,p1,p2⟩
theorem Zz (hT:IQ P ts el size i zv) {n} {l} (hN:lK P H size (ay x e) n l) (hn0:0<n) {b off len q sz} (hle:len+n<=q) {base} {w0} {rho} {w} {cs cx} (hp:PR P base w0 rho H w) (vs:VR (mu rho H w) (.slice b off len (q+1) sz) cs) (vx:VR (mu rho H w) (ay x e) cx)
 {H'} (hone:∀ v ∈ l,v.one=true)
 (hst:∀ {base} {w0 w} {rho} {c} {ms},PR P base w0 rho H w->(mu rho H w).b b c->(∀ v ∈ l,v.one=true)->cm (mu rho H w) l ms->∃ w',(storeCells ⟨c,off+len*size,none⟩ ms 0).run P w = .ok () w'/\PR P base w0 rho H' w'/\Ext rho H w rho H' w') {ot}:
 ∃ cv w',(Builtin.append_ ts ot #[cs,cx]).run P w = .ok cv w'/\Left P base w0 rho H w (.slice b off (len+n) (q+1) sz) H' cv w':=by
 have hlen:=hN.1 _ _ vx w
 obtain ⟨hll,h3⟩:=hN.2 hp vx
 obtain ⟨nc,h4,h5⟩:=h3 n (YB _)
 rw [YV (by omega)]at h5
 obtain ⟨c,cap,o',sp,rfl,hm,hlc,hcp,ho'⟩:=vs
 have:=hcp.1 q rfl
 subst this
 obtain ⟨rfl,rfl⟩:o'=off/\sp=none:=by
  grind
 obtain ⟨w',g1,g2,g3⟩:=hst hp hm hone h5
 refine ⟨_,w',iW hT hlen h4 hle (by show (storeCells (Addr.add ⟨c,o',none⟩ (len*size)) nc).run P w=_;rw [Addr.add_lit];omega),rho,?_,g2,g3⟩
 exact ⟨c,cap,o',none,rfl,g3.mu.1 _ _ hm,hle,⟨hcp.1,λh=>absurd h (by omega)⟩,YG ⟨rfl,rfl⟩⟩
theorem D9 (hT:IQ P ts el size i zv) (hs0:0<size) {n:Nat} {l row:List V} (hN:lK P H size (ay x e) n l) (hn0:0<n) {b len:Nat} (hrow:rowOf (H.get b)=some row) (hrl:row.length=len*size) (hb:len+n<=1073741824)
 {H':Heap} {bl:eK} (h1:H'.n=H.n+1) (h2:H'.bz<=H.bz) (h3:H'.bz<=b) (h4:H'.get b = .dead) (h5:H'.get H.n=bl) (h6:∀ j,j≠b->j≠H.n->H'.get j=H.get j)
 {base:Nat} {w0:World} {rho:Nat->Option Nat} {w:World} {cs cx:Value} (hp:PR P base w0 rho H w) (vs:VR (mu rho H w) (.slice b 0 len 0 size) cs) (vx:VR (mu rho H w) (ay x e) cx)
 (hbl:∀ oc nc,cm (mu rho H w) row oc->cm (mu rho H w) l nc->rowOf bl=some (row ++ l)/\(∀ len m,bl = .bytes len m->m<256 ^ len)/\(∀ v ∈ row ++ l,v.one=true)) (hkd:∀ q,bl = .cells q->∃ q',H.get b = .cells q') {ot:TypeId}:
 ∃ cv w',(Builtin.append_ ts ot #[cs,cx]).run P w = .ok cv w'/\Left P base w0 rho H w (.slice H.n 0 (len+n) 0 size) H' cv w':=by
 have hlen:=hN.1 _ _ vx w
 simp only [VR]at vs
 obtain ⟨c,cap,o',sp,rfl,hm,hlc,hcp,ho'⟩:=vs
 have hr:=hp.lX hm hrow
 obtain ⟨cur,elc,fr,k1,k2⟩:=hp.row hr hrow
 have hnm:=(gO hrow).2
 by_cases hle:len+n<=cap
 .obtain ⟨rfl,rfl⟩:o'=0/\sp=none:=by
   grind
  obtain ⟨hll,h8⟩:=hN.2 hp vx
  obtain ⟨nc,g4,g5⟩:=h8 n (YB _)
  rw [YV (by omega)]at g5
  have hrv:=k2.vrs (o:=0) (n:=row.length) (by omega)
  rw [WH,List.take_length]at hrv
  obtain ⟨r1,r2,r3⟩:=hbl _ nc hrv g5
  have hcapb:cap<9223372036854775808:=by
   grind
  have hz:cur.size=cap*size:=by
   rcases hcp.2 trivial with h|⟨⟨cs2,e2,fr2,h,h'⟩,_⟩
   .omega
   .rw [k1]at h;cases h;omega
  have hncl:=g5.length
  have hsum:len*size+n*size<=cap*size:=by rw [<- Wi];exact QU _ hle
  obtain ⟨w',cur',q1,q2,q3,q4,q5,q6,q7⟩:=ij (P:=P) (o:=len*size) nc 0 cur w k1 (by omega) (Dp g5 λv hv=>r3 v (List.mem_append_right _ hv)) k2.2
  have hR:ju (mu rho H w) (row ++ l) cur' fr:=by
   refine ⟨λj v hj=>⟨r3 v (YS hj),?_⟩,by rw [q3];exact k2.2⟩
   rw [q4]
   by_cases hj1:j<row.length
   .rw [Yp hj1]at hj
    rw [if_neg (by omega)]
    exact (k2.1 j v hj).2
   .rw [Ym (by omega)]at hj
    obtain ⟨cv,t1,t2⟩:=g5.get hj
    grind
  obtain ⟨p1,p2⟩:=hp.move (w':=w') (c':=c) (o:=.cells cur' elc fr) hr hnm h1 h2 h3 h4 h5 h6 (gO r1).1 q7 (by omega) (YG rfl) (by grind) q2 (λj _ hj=>q5 j hj) (lZ r1 r2 hR λq hq=>by obtain ⟨q',hq'⟩:=hkd q hq;rw [q3];exact hp.aeJ hr hq' k1) (λcs2 e2 fr2 h=>by grind) (λr h=>by rw [k1]at h;cases h)
  refine ⟨_,w',iW hT (base:=some ⟨c,0,none⟩) hlen g4 hle (by show (storeCells (Addr.add ⟨c,0,none⟩ (len*size)) nc).run P w=_;rw [Addr.add_lit,WJ];exact q1),_,?_,p1,p2⟩
  simp only [VR]
  refine ⟨c,cap,0,none,rfl,⟨by rw [h1];omega,λ_=>by simp⟩,hle,⟨λq hq=>absurd hq (by omega),λ_=>YE ⟨⟨cur',elc,fr,q2,by omega⟩,hcapb⟩⟩,YG ⟨rfl,rfl⟩⟩
 .have hpd:=hp.drawn (w.drawn+1)
  obtain ⟨hll,h8⟩:=hN.2 hpd vx
  obtain ⟨nc,g4,g5⟩:=h8 n (YB _)
  rw [YV (by omega)]at g5
  obtain ⟨oc,j1,j2⟩:=hpd.pT (o':=o') (sp:=sp) (off:=0) (n:=len*size) hm hrow (by omega) (by
   grind)
  rw [WH,YV (by omega)]at j2
  obtain ⟨cap',w',rest,q1,q10,q2,q3,q4⟩:=run_append_grow hT (base:=some ⟨c,o',sp⟩) (sLen:=len) (sCap:=cap) hlen (by omega) hb (by simpa [Builtin.firstCells] using j1) g4 (ot:=ot)
  obtain ⟨r1,r2,r3⟩:=hbl oc nc j2 g5
  have hR:ju (mu rho H w) (row ++ l) (oc.toArray ++ nc.toArray ++ rest) (0,0):=by
   refine ⟨λj v hj=>⟨r3 v (YS hj),?_⟩,λj _=>by simp⟩
   obtain ⟨cv,t1,t2⟩:=(j2.append g5).get hj
   have hjl:j<(oc ++ nc).length:=by
    grind
   refine ⟨cv,?_,t2⟩
   grind
  have hcw:c<w.heap.size:=(hp.jP b c hr).2.2.1
  have hold:∀ j,j<w.heap.size->w'.heap[j]? = w.heap[j]?:=λj hj=>by grind
  obtain ⟨p1,p2⟩:=hp.move (w':=w') (c':=w.heap.size) (o:=.cells (oc.toArray ++ nc.toArray ++ rest) el) hr hnm h1 h2 h3 h4 h5 h6 (gO r1).1 q3 (by rw [q4];simp) (YE (YB _)) (by rw [q4];simp) (by grind) (λj hj _=>hold j hj) (lZ r1 r2 hR) (λcs2 e2 fr2 h=>⟨cs2,e2,fr2,(hold c hcw).trans h,rfl⟩) (λr h=>by grind)
  refine ⟨_,w',q2,_,?_,p1,p2⟩
  simp only [VR]
  refine ⟨w.heap.size,cap',0,none,rfl,⟨by rw [h1];omega,λ_=>by simp⟩,q1.1,⟨λq hq=>absurd hq (by omega),λ_=>YE ⟨⟨_,_,_,by rw [q4,Qv],by
   have e1:=j2.length
   have e2:=g5.length
   simp only [YN2,YG2,e1,e2,hrl,hll,q10,WJ]
   rw [<- Wi,<- Wi]
   congr 1
   omega⟩,q1.2⟩⟩,YG ⟨rfl,rfl⟩⟩
end app
theorem To {asL:Array Operand} {ts:Array TypeId} (hop:o.op = .call {callee:=.builtin .append,args:=asL,argTypes:=ts }) (h:aL (ai P nt o) id ph e H k=1):Good P nt o e H k:=by
 simp only [ai,hop,dg]at h
 split at h
 .rename_i s x st xt hx hts
  obtain ⟨p,q,rfl,hp',hq'⟩:=Ea hx
  split at h
  .rename_i el hel
   split at h
   .rename_i s' i hs hi
    split at h
    .rename_i hc
     simp only [Yz,decide_eq_true_eq]at hc
     obtain ⟨⟨⟨hs0,hby⟩,hzl⟩,hlt⟩:=hc
     obtain ⟨zv,hT⟩:=UL hts hel hs hi hby hzl hlt
     have h':aF (Gw P el && s' == 1) (L8 s x id e H k) (L9 s' s x id e H k)=1:=h
     rcases bP h' with ⟨hu8,h1⟩|⟨_,h1⟩
     .simp only [Yz,beq_iff_eq]at hu8
      obtain ⟨_,rfl⟩:=hu8
      unfold L8 at h1
      rw [aq,aq]at h1
      obtain ⟨n,y,l,h2,hN,hone,hby2⟩:=GX (P:=P) h1
      have e8:∀ (a k:Nat),Yt a (Yj 8 k)=256 ^ k*a:=λa k=>by
       show a <<< (8*k)=_
       rw [Nat.shiftLeft_eq,QS,Nat.mul_comm]
      have hjoin:∀ (m:M) (row:List V) (rx:Nat) (oc nc:List Value) (cxv:Value),VR m (ay x e) cxv->(Bq row->Bo row rx)->cm m row oc->cm m l nc->(row ++ l)=(aB (row.length+l.length) (rx+256 ^ row.length*y)).map eN/\rx+256 ^ row.length*y<256 ^ (row.length+l.length):=by
       intro m row rx oc nc cxv vx hrx hoc hnc
       obtain ⟨g1,g2⟩:=hrx hoc.small
       obtain ⟨g3,g4⟩:=hby2 m cxv vx hnc.small
       rw [fy _ _ _ _ g2,WB,<- g1,<- g3]
       refine ⟨rfl,?_⟩
       rw [Nat.pow_add]
       calc rx+256 ^ row.length*y<256 ^ row.length+256 ^ row.length*y:=by omega
        _=256 ^ row.length*(y+1):=by grind
        _<=256 ^ row.length*256 ^ l.length:=Nat.mul_le_mul_left _ g4
      rcases fP h2 with ⟨b,off,len,cp,sz,hsv,h3⟩|⟨hsv,h3⟩
      .cases n with
       | zero=>exact ⟨_,_,gX hop hp' hq' λbase w0 rho w cs cx hp vs vx=>rZ hT hN (YG ⟨b,off,len,cp,sz,hsv⟩) hp vs vx,h3⟩
       | succ n=>
        have h4:MP id (n+1) y b off len cp sz H k=1:=h3
        unfold MP at h4
        rw [aw]at h4
        obtain ⟨h5,h6⟩:=aQ h4
        have hneed:=cA h5
        cases cp with
        | zero=>
         obtain ⟨h7,h8⟩:=aQ h6
         obtain ⟨h9,h10⟩:=aQ h8
         have e1:=cI h7
         have e2:=cI h9
         subst e1 e2
         rw [aV]at h10
         rcases mV h10 with ⟨l0,_,h11⟩|⟨ln,mx,hbb,h11⟩
         .exact (av h11).elim
         obtain ⟨h12,h13⟩:=aQ h11
         have e3:=cI h12
         subst e3
         rw [aw]at h13
         obtain ⟨H1,h14,h15⟩:=ib h13
         obtain ⟨H2,h16,h17⟩:=dH h14
         rw [h15.n]at h16
         have hbn:=h15.lt
         refine ⟨_,_,gX hop hp' hq' λbase w0 rho w cs cx hp vs vx=>?_,h16⟩
         rw [hsv]at vs
         have hrow:rowOf (H.get b)=some ((aB ln mx).map eN):=by rw [hbb];rfl
         refine D9 (bl:=.bytes (Yd ln (n+1)) (Yd mx (Yt y (Yj 8 ln)))) hT (by omega) hN (by omega) hrow (by simp [aK]) hneed (by rw [h17.n,h15.n]) (by rw [h17.bz];exact h15.bz) (by rw [h17.bz];exact h15.wb) (by rw [h17.vU b (by rw [h15.n];omega)];exact h15.get) (by rw [<- h15.n];exact h17.get) (λj hj1 hj2=>by rw [h17.vU j (by rw [h15.n];exact hj2)];exact h15.vU j hj1) hp vs vx (hkd:=λ_ e=>nomatch e) λoc nc hoc hnc=>?_
         have hcan:mx<256 ^ ln:=by
          have hmu:∃ c,(mu rho H w).b b c:=by simp only [VR]at vs;grind
          obtain ⟨c,hm⟩:=hmu
          obtain ⟨ob,_,q2⟩:=hp.db b c (hp.lX hm hrow)
          rw [hbb]at q2
          obtain ⟨_,_,_,_,⟨hx,_⟩,_⟩:=q2
          exact hx
         obtain ⟨g1,g2⟩:=hjoin _ ((aB ln mx).map eN) mx oc nc cx vx (λ_=>⟨by simp [aK],by simpa [aK] using hcan⟩) hoc hnc
         have hll:=(hN.2 hp vx).1
         simp only [Ys,aK]at g1 g2
         rw [hll,WS]at g1 g2
         have e9:Yd mx (Yt y (Yj 8 ln))=mx+256 ^ ln*y:=by rw [e8];rfl
         refine ⟨by rw [e9];simp only [rowOf];rw [g1];rfl,λln' m' e=>by grind,λv hv=>?_⟩
         rcases Yn.1 hv with hv|hv
         .obtain ⟨yy,_,rfl⟩:=Yi.1 hv;rfl
         grind
        | succ qq=>
         have h7:aF (YX (Yd len (n+1)) qq) (no _) (mH id H b off len λm=>au (Yd m (Yt y (Yj 8 len))) λm'=>cB H (.bytes (Yd len (n+1)) m') λb' H=>k (.slice b' 0 (Yd len (n+1)) 0 1) H)=1:=h6
         rcases bP h7 with ⟨_,h8⟩|⟨h8,h9⟩
         .exact (av h8).elim
         have hq:qq<len+(n+1):=by
          rcases Yh qq (len+(n+1)) with h|h
          .exact h
          .have:YX (Yd len (n+1)) qq=true:=WV h
           grind
         obtain ⟨row,rx,h10,h11,h12,h13,h14⟩:=xZ h9
         rw [aw]at h12
         obtain ⟨H',h15,h16⟩:=dH h12
         refine ⟨_,_,gX hop hp' hq' λbase w0 rho w cs cx hp vs vx=>?_,h15⟩
         rw [hsv]at vs
         simp only [VR]at vs
         obtain ⟨c,cap,o',sp,rfl,hm,hlc,hcp,ho'⟩:=vs
         have hcq:=hcp.1 qq rfl
         subst hcq
         have hrl:((row.drop off).take len).length=len:=by simp;omega
         refine rY hT hN h16 hp vx (old:=(row.drop off).take len) (λw1 hw1 hp1=>?_) (by grind) hq hneed (λoc nc hoc hnc=>?_)
         .obtain ⟨oc,g1,g2⟩:=hp1.pT (o':=o') (off:=off) (n:=len) hm h10 h11 (by
           rcases ho' with h|h
           .exact YG h
           grind)
          exact ⟨oc,by simpa [Builtin.firstCells] using g1,by rw [show mu rho H w=mu rho H w1 by unfold mu;rw [hw1]];exact g2⟩
         .obtain ⟨g1,g2⟩:=hjoin _ ((row.drop off).take len) rx oc nc cx vx h14 hoc hnc
          have hll:=(hN.2 hp vx).1
          rw [hrl,hll,WS]at g1 g2
          have e9:Yd rx (Yt y (Yj 8 len))=rx+256 ^ len*y:=by rw [e8];rfl
          refine ⟨by rw [e9];simp only [rowOf];rw [g1];rfl,λln' m' e=>by grind,λv hv=>?_⟩
          rcases Yn.1 hv with hv|hv
          .obtain ⟨yy,rfl⟩:=h13 v hv;rfl
          grind
      .cases n with
       | zero=>exact ⟨_,_,gX hop hp' hq' λbase w0 rho w cs cx hp vs vx=>rZ hT hN (YE hsv) hp vs vx,h3⟩
       | succ n=>
        have h4:aF (YX (n+1) 1073741824) (cB H (.bytes (n+1) y) λb' H=>k (.slice b' 0 (n+1) 0 1) H) (no _)=1:=h3
        obtain ⟨h5,h6⟩:=aQ h4
        have hneed:=cA h5
        obtain ⟨H',h7,h8⟩:=dH h6
        refine ⟨_,_,gX hop hp' hq' λbase w0 rho w cs cx hp vs vx=>?_,h7⟩
        rw [hsv]at vs
        simp only [VR]at vs
        subst vs
        have:=rY (ba:=none) (sLen:=0) (sCap:=0) (ot:=o.type) hT hN h8 hp vx (old:=[]) (λw1 hw1 hp1=>⟨[],rfl,by simp only [cm]⟩) (by simp) (by omega) (by omega) (λoc nc hoc hnc=>by
         obtain ⟨g1,g2⟩:=hjoin _ [] 0 oc nc cx vx (λ_=>⟨rfl,by simp⟩) hoc hnc
         have hll:=(hN.2 hp vx).1
         simp only [List.length_nil,WJ,Nat.pow_zero,Nat.one_mul,hll,WS]at g1 g2
         refine ⟨by simp only [rowOf];rw [g1],λln' m' e=>by grind,λv hv=>hone v (by grind)⟩)
        grind
     .unfold L9 at h1
      rw [aq,aq]at h1
      obtain ⟨n,l,h2,hN⟩:=pJ (P:=P) h1
      rcases fP h2 with ⟨b,off,len,cp,sz,hsv,h3⟩|⟨hsv,h3⟩
      .cases n with
       | zero=>exact ⟨_,_,gX hop hp' hq' λbase w0 rho w cs cx hp vs vx=>rZ hT hN (YG ⟨b,off,len,cp,sz,hsv⟩) hp vs vx,h3⟩
       | succ n=>
        have h4:rX id s' (n+1) l b off len cp sz H k=1:=h3
        unfold rX at h4
        obtain ⟨hone,h4⟩:=ft h4
        rw [aw]at h4
        obtain ⟨h5,h6⟩:=aQ h4
        have hneed:=cA h5
        cases cp with
        | zero=>
         obtain ⟨h7,h8⟩:=aQ h6
         obtain ⟨h9,h10⟩:=aQ h8
         have e1:=cI h7
         have e2:=cI h9
         subst e1 e2
         rw [aV]at h10
         rcases mV h10 with ⟨l0,hbb,h11⟩|⟨ln,mx,_,h11⟩
         .obtain ⟨h12,h13⟩:=aQ h11
          have e3:=cI h12
          rw [jR]at e3
          rw [fA]at h13
          obtain ⟨H1,h14,h15⟩:=ib h13
          obtain ⟨H2,h16,h17⟩:=dH h14
          rw [h15.n]at h16
          have hbn:=h15.lt
          refine ⟨_,_,gX hop hp' hq' λbase w0 rho w cs cx hp vs vx=>?_,h16⟩
          rw [hsv]at vs
          have hrow:rowOf (H.get b)=some l0:=by rw [hbb];rfl
          refine D9 (bl:=.cells (l0 ++ l)) hT hs0 hN (by omega) hrow e3 hneed (by rw [h17.n,h15.n]) (by rw [h17.bz];exact h15.bz) (by rw [h17.bz];exact h15.wb) (by rw [h17.vU b (by rw [h15.n];omega)];exact h15.get) (by rw [<- h15.n];exact h17.get) (λj hj1 hj2=>by rw [h17.vU j (by rw [h15.n];exact hj2)];exact h15.vU j hj1) hp vs vx (hkd:=λ_ _=>⟨_,hbb⟩) λoc nc hoc hnc=>⟨rfl,(λ_ _ e=>nomatch e),λv hv=>?_⟩
          rcases Yn.1 hv with hv|hv
          .have hmu:∃ c,(mu rho H w).b b c:=by simp only [VR]at vs;grind
           obtain ⟨c,hm⟩:=hmu
           obtain ⟨_,_,_,_,q2⟩:=hp.row (hp.lX hm hrow) hrow
           obtain ⟨j,hj⟩:=List.getElem?_of_mem hv
           exact (q2.1 j v hj).1
          grind
         .exact (av h11).elim
        | succ qq=>
         have h7:aF (YX (Yd len (n+1)) qq) (eJ id H b (Yd off (Yj len s')) l λH=>k (.slice b off (Yd len (n+1)) (qq+1) sz) H) (ec id H b off (Yj len s') λl0=>bu id l0 (jO l0 l λl'=>cB H (.cells l') λb' H=>k (.slice b' 0 (Yd len (n+1)) 0 s') H))=1:=h6
         rcases bP h7 with ⟨h8,h9⟩|⟨h8,h9⟩
         .obtain ⟨H',h10,h11⟩:=lG (P:=P) h9
          refine ⟨_,_,gX hop hp' hq' λbase w0 rho w cs cx hp vs vx=>?_,h10⟩
          rw [hsv]at vs
          exact Zz hT hN (by omega) (cA h8) hp vs vx hone h11
         .have hq:qq<len+(n+1):=by
           rcases Yh qq (len+(n+1)) with h|h
           .exact h
           .have:YX (Yd len (n+1)) qq=true:=WV h
            grind
          obtain ⟨row,h10,h11,h12⟩:=pD h9
          obtain ⟨hone2,h13⟩:=ft h12
          rw [fA]at h13
          obtain ⟨H',h15,h16⟩:=dH h13
          refine ⟨_,_,gX hop hp' hq' λbase w0 rho w cs cx hp vs vx=>?_,h15⟩
          rw [hsv]at vs
          simp only [VR]at vs
          obtain ⟨c,cap,o',sp,rfl,hm,hlc,hcp,ho'⟩:=vs
          have hcq:=hcp.1 qq rfl
          subst hcq
          have h11':off+len*s'<=row.length:=h11
          refine rY hT hN h16 hp vx (old:=(row.drop off).take (len*s')) (λw1 hw1 hp1=>?_) (by grind) hq hneed (λoc nc hoc hnc=>⟨rfl,(λ_ _ e=>nomatch e),λv hv=>?_⟩)
          .obtain ⟨oc,g1,g2⟩:=hp1.pT (o':=o') (off:=off) (n:=len*s') hm h10 h11' (by
            rcases ho' with h|h
            .exact YG h
            grind)
           exact ⟨oc,by simpa [Builtin.firstCells] using g1,by rw [show mu rho H w=mu rho H w1 by unfold mu;rw [hw1]];exact g2⟩
          grind
      .cases n with
       | zero=>exact ⟨_,_,gX hop hp' hq' λbase w0 rho w cs cx hp vs vx=>rZ hT hN (YE hsv) hp vs vx,h3⟩
       | succ n=>
        have h4:bu id l (aF (YX (n+1) 1073741824) (cB H (.cells l) λb' H=>k (.slice b' 0 (n+1) 0 s') H) (no _))=1:=h3
        obtain ⟨hone,h4⟩:=ft h4
        obtain ⟨h5,h6⟩:=aQ h4
        have hneed:=cA h5
        obtain ⟨H',h7,h8⟩:=dH h6
        refine ⟨_,_,gX hop hp' hq' λbase w0 rho w cs cx hp vs vx=>?_,h7⟩
        rw [hsv]at vs
        simp only [VR]at vs
        subst vs
        have:=rY (ba:=none) (sLen:=0) (sCap:=0) (ot:=o.type) hT hN h8 hp vx (old:=[]) (λw1 hw1 hp1=>⟨[],rfl,by simp only [cm]⟩) (by simp) (by omega) (by omega) (λoc nc hoc hnc=>⟨rfl,(λ_ _ e=>nomatch e),λv hv=>hone v (by grind)⟩)
        grind
    .exact (av h).elim
   .exact (av h).elim
  .exact (av h).elim
 .exact (av h).elim
end
end Go.Ev
end

