/- EvB: a part of the evaluator,of its logic,or of the laws' walk in it. -/
import Derived.Test.YtabnemidjklolaaGreatDoorEvA
import Derived.Laws.BytesString
import Derived.Laws.MakeOwn
import Derived.Laws.Tables
import Derived.Laws.StructEq
open Nat renaming le_refl→YC,beq→YR,ble→Yd,lt_or_ge→Yh,add→Yi,mul→Yn,shiftLeft→Yt,mod→Yx,blt→WC,shiftRight→WD,zero_add→WG,succ→WQ,ble_eq_true_of_le→WX,mul_one→Wb,add_mul→Wi,min_eq_left→Ws,zero_mul→QG,mul_le_mul_right→QJ,sub→QO,pow_mul→QY,mod_lt→Qq,pow_pos→YA3,succ_mul→YQ2,mul_le_mul→YS3
open Or renaming inr→YD,inl→YF
open List renaming length_cons→YH,mem_cons_of_mem→YI,nil_append→YJ,mem_cons_self→YM,mem_cons→YN,map_cons→YP,getElem?_eq_some_iff→YQ,mem_map→YW,map_nil→YZ,mem_of_getElem?→Yb,length_map→Yg,take_of_length_le→Yk,mem_append→Yl,getElem?_append_right→Ym,getElem?_append_left→Yp,getElem?_map→Yq,length_take→Yv,map_append→Yz,nodup_cons→WI,length_drop→WJ,getElem?_eq_none→WT,drop_zero→Wz,take_zero→QF,getElem?_cons_succ→QI,nodup_nil→QP,ext_getElem?→Qa,foldl_cons→Qb,take_take→YA4,map_take→YC1,map_toArray→YF2,foldlM_cons→YF3,foldlM_nil→YG4,size_toArray→YJ0,eraseIdx_nil→YQ3
open Bool renaming false_eq_true→YV,and_eq_true→Yu
open Option renaming map_eq_some_iff→Yj
open Array renaming getElem?_toList→Ys,getElem?_setIfInBounds_ne→WV,getElem?_push→QS,getElem?_append_left→Qh,replicate→Ql,getElem?_push_size→Qr,toList_push→YI4,size_append→YQ4
set_option linter.unusedVariables false
set_option linter.unusedSimpArgs false
set_option linter.unusedSectionVars false
section
namespace Go.Ev
open Go.RowKit
section
variable{P:Program}{nt:Nat}{o:Oper}{id:Nat}{ph:dz}{e:Env}{H:Heap}{k:K}
theorem mJ{m}{bl}{row}{c}{t}{fr}(h:rowOf bl=some row)(hcan:∀len n,bl=.bytes len n->n<256^len)(hR:jV m row c fr)(hns:∀l,bl=.cells l->¬(fr.1<=c.size/\c.size<fr.2):=by first|(intro _ _;simp;done)|(intro _ e;cases e)):BR P m bl (.cells c t fr):=by cases bl with|cells l=>simp only[rowOf,Option.some.injEq]at h;subst h;exact⟨c,t,fr,rfl,hR,hns _ rfl⟩|bytes len n=>simp only[rowOf,Option.some.injEq]at h;subst h;exact⟨c,t,fr,rfl,⟨hcan len n rfl,λi y hy=>by obtain⟨_,cv,t1,t2⟩:=hR.1 i (eO y) (by simp_all);rw[t1,t2.X6.2]⟩,hR.2⟩|_=>simp[rowOf]at h
theorem PR.fresh{base:Nat}{w0 w w':World}{rho:Nat->Option Nat}{H':Heap}(h:PR P base w0 rho H w){bl:eN}(hN:py H bl H'){row:List V}(hrow:rowOf bl=some row)(hcan:∀len n,bl=.bytes len n->n<256^len){c:Array Value}{t:TypeId}{fr:Nat×Nat}(hR:jV (mu rho H w) row c fr)(hs:xq w w')(hh:w'.heap=w.heap.push (.cells c t fr))(hns:∀l,bl=.cells l->¬(fr.1<=c.size/\c.size<fr.2):=by first|(intro _ _;simp;done)|(intro _ e;cases e)):∃rho',PR P base w0 rho' H' w'/\Ext rho H w rho' H' w'/\(mu rho' H' w').b H.n w.heap.size:=by obtain⟨p1,p2⟩:=h.alloc (w':=w') (o:=.cells c t fr) hN.n hN.bD hN.get hN.xf (iq hrow).1 hs (by simp[hh]) (by simp[hh]) (λj hj=>by rw[hh,QS,if_neg (by omega)]) (mJ hrow hcan hR hns);exact⟨_,p1,p2,by rw[hN.n];omega,λ_=>by simp⟩
theorem jV.exact{m:M}{row:List V}{cs:Array Value}(h:cA m row cs.toList)(h1:∀v∈row,v.one=true):jV m row cs (0,0):=by refine⟨λi v hi=>?_,λi _=>by simp⟩;obtain⟨c,h2,h3⟩:=h.get hi;exact⟨h1 v (Yb hi),c,by simpa using h2,h3⟩
theorem MR:∀{z},z8 z=true->z=(aF z.length 0).map eO|[],_=>rfl|.int 4 0::l,h=>by have h':z8 l=true:=h;have:=MR h';simp only[YH,aF,YP,eO];rw[<-this];rfl
theorem nJ{t}{z}(h:rI P t=some z):∃i zv,P.info? t=some i/\i.zero=some zv/\(∀m,cA m z zv.cells.toList)/\∀v∈z,v.one=true:=by
 unfold rI at h;split at h
 .rename_i i hi;split at h;.rename_i zv hz;exact⟨i,zv,hi,hz,λm=>(mW h).1,(mW (mu:=⟨λ_ _=>True,λ_ _=>True⟩) h).2⟩
  simp_all
 simp_all
theorem ZU{t}(hop:o.op=.alloc t)(h:aQ (ai P nt o) id ph e H k=1):Good P nt o e H k:=by
 simp only[ai,hop]at h;have hnd:∀c,o.op≠.defer c:=by simp_all
 have key:∀(z)(bl),rI P t=some z->rowOf bl=some z->(∀len n,bl=.bytes len n->n<256^len)->(cN H bl λn H=>k (.ptr n 0) H)=1->Good P nt o e H k:=by intro z bl hz hrow hcan h';obtain⟨H',h1,h2⟩:=dP h';obtain⟨i,zv,hi,hzv,hvr,hone⟩:=nJ hz;refine⟨_,_,fD.of_run hnd λbase w0 rho w a hp ho=>?_,h1⟩;obtain⟨rho',p1,p2,p3⟩:=hp.fresh (w':=w.alloc (.cells zv.cells t)) h2 hrow hcan (jV.exact (hvr _) hone) ⟨rfl,rfl,rfl⟩ rfl;refine⟨.pointer (some ⟨w.heap.size,0,none⟩),w.alloc (.cells zv.cells t),?_,rho',by simp only[VR];simp_all,p1,p2⟩;simp[execOp,hop,Instr.alloc,zeroValue,typeInfo,hi,hzv,newVar,newRow]
 split at h
 .rename_i z n el hz hu;split at h;.rename_i hc;simp only[Yu,beq_iff_eq]at hc;have hzz:=MR hc.1;rw[hc.2]at hzz;exact key z (.bytes n 0) hz (by rw[hzz];rfl) (λlen m e=>by cases e;exact YA3 (by simp)) h
  .exact key z (.cells z) hz rfl (λlen m e=>by cases e) h
 .exact key _ (.cells _) (by omega) rfl (λlen m e=>by cases e) h
 .exact(aw h).elim
theorem qx{x}{f}(h:dU id x f=1):∃l,f l=1/\∀(m)(c),VR m x c->cA m l c.cells.toList:=by
 rcases Q2 h with⟨l,rfl,h1⟩|⟨h1,h2⟩;.exact⟨l,h1,λm c hv=>by obtain⟨cs,rfl,hr⟩:=hv;exact hr⟩
 .refine⟨[x],h2,λm c hv=>?_⟩;have:=hv.one h1;have hc:c.cells=#[c]:=by cases c<;>first|rfl|simp_all|rfl
  simp only[cA];simp_all
theorem af4{t}{x}(hop:o.op=.box t x)(h:aQ (ai P nt o) id ph e H k=1):Good P nt o e H k:=by
 simp only[ai,hop]at h;have mem:x∈o.op.operands:=by simp[hop,Op.operands]
 have hnd:∀c,o.op≠.defer c:=by simp_all
 split at h;.rename_i x' hx;have h':Ts x' id ph e H k=1:=h;unfold Ts at h';rw[aq]at h';obtain⟨l,h1,h2⟩:=qx h';obtain⟨h3,h4⟩:=fE h1;obtain⟨H',h5,h6⟩:=dP h4;refine⟨_,_,fD.of_run hnd λbase w0 rho w a hp ho=>?_,h5⟩;obtain⟨rho',p1,p2,p3⟩:=hp.fresh (w':=w.alloc (.cells (a.eval x).cells t)) h6 rfl (λlen m e=>by cases e) (jV.exact (h2 _ _ (ho x mem x' hx)) h3) ⟨rfl,rfl,rfl⟩ rfl;exact⟨.pointer (some ⟨w.heap.size,0,none⟩),w.alloc (.cells (a.eval x).cells t),by simp[execOp,hop,Instr.box,newVar,newRow],rho',by simp only[VR];simp_all,p1,p2⟩
 .exact(aw h).elim
theorem kQ{t}{b}(h:mh P t=some b)(w):(isAgg t).run P w=.ok b w:=by
 unfold mh at h;split at h;.rename_i hu;cases h;simp[isAgg,run_underlying hu]
 .rename_i hu;cases h;simp[isAgg,run_underlying hu]
 .rename_i d h1 h2 hu;cases h;simp only[isAgg,Sem.run_bind,run_underlying hu,Result.andThen_ok];rfl
 simp_all
theorem adg{t}{x}(hop:o.op=.load t x)(h:aQ (ai P nt o) id ph e H k=1):Good P nt o e H k:=by
 simp only[ai,hop]at h;have mem:x∈o.op.operands:=by simp[hop,Op.operands]
 have hnd:∀c,o.op≠.defer c:=by simp_all
 split at h;.rename_i x' n hx hag hsz;have h':rV n x' id ph e H k=1:=h;unfold rV at h';rw[aq]at h';obtain⟨b,off,hb,h1⟩:=gu h';obtain⟨row,h2,h3,h30,h4⟩:=KK h1;refine⟨_,_,fD.of_run hnd λbase w0 rho w a hp ho=>?_,h4⟩;have vx:=ho x mem x' hx;rw[hb]at vx;obtain⟨c,hc,hm⟩:=vx;obtain⟨cs,g1,g2,g3,_⟩:=hp.KJ (hp.zE hm h2) h2 h3 h30;exact⟨.agg cs.toArray,w,by simp[execOp,hop,hc,Instr.loadAt,Instr.sureAddr,loadVar,kQ hag,cY hsz,g1],rho,by simp only[VR];simp_all,hp,Ext.refl hp.lt⟩
 .rename_i _ x' hx hag;have h':rU x' id ph e H k=1:=h;unfold rU at h';rw[aq]at h';obtain⟨b,off,hb,h1⟩:=gu h';obtain⟨row,v,h2,h3,h30,h4⟩:=U2 h1;refine⟨_,_,fD.of_run hnd λbase w0 rho w a hp ho=>?_,h4⟩;have vx:=ho x mem x' hx;rw[hb]at vx;obtain⟨c,hc,hm⟩:=vx;obtain⟨cv,g1,g2,_⟩:=hp.U0 (hp.zE hm h2) h2 h3 h30;exact⟨cv,w,by simp[execOp,hop,hc,Instr.loadAt,Instr.sureAddr,loadVar,kQ hag,g1],rho,g2,hp,Ext.refl hp.lt⟩
 .exact(aw h).elim
theorem l7{b off}{m}{f}(h:ei id H b off m f=1):∃H',f H'=1/\∀{base}{w0 w}{rho}{c}{ms},PR P base w0 rho H w->(mu rho H w).b b c->(∀v∈m,v.one=true)->cA (mu rho H w) m ms->∃w',(storeCells ⟨c,off,none⟩ ms 0).run P w=.ok () w'/\PR P base w0 rho H' w'/\Ext rho H w rho H' w':=by
 have h0:=h;unfold ei at h;rw[aU]at h;rcases nO h with⟨l,hb,h2⟩|⟨len,x,hb,h2⟩
 .obtain⟨_,h2⟩:=fE h2;obtain⟨h3,h4⟩:=zK h2;obtain⟨H',h5,h6⟩:=gW h4;refine⟨H',h5,λ{base w0 w rho c ms}hp hm hone hv=>?_⟩;have hms:=Ek hv hone;have hrow:rowOf (H.get b)=some l:=by rw[hb];rfl
  have hr:=hp.mE hm hrow;obtain⟨cs,el,fr,h7,h8⟩:=hp.row hr hrow;have hle:=h8.le;obtain⟨w',cur',g1,g2,g3,g4,g5,g6,g7⟩:=iM (P:=P) (o:=off) ms 0 cs w h7 (by rw[hv.length];omega) hms h8.2;obtain⟨p1,p2⟩:=hp.write hr (by simp_all) h6.n h6.bD h6.wb h6.get h6.xf trivial g7 g6 g2 g5 ⟨cur',el,fr,rfl,h8.Vs hv hone h3 g3 g4,by rw[g3];exact hp.afY hr hb h7⟩ (λcs2 e2 fr2 h=>by simp_all) (λr h=>by simp_all);simp_all
 .obtain⟨mx,h3,h30,h4⟩:=qj h2;obtain⟨h5,h6⟩:=aX h3;rw[ay]at h6;obtain⟨H',h7,h8⟩:=gW h6;refine⟨H',h7,λ{base w0 w rho c ms}hp hm hone hv=>?_⟩;have hms:=Ek hv hone;obtain⟨h9,h10⟩:=h4 hv.small;have hle:off+m.length<=len:=cH h5;have hrow:rowOf (H.get b)=some ((aF len x).map eO):=by rw[hb];rfl
  have hr:=hp.mE hm hrow;obtain⟨o,q1,q2⟩:=hp.cQ b c hr;rw[hb]at q2;obtain⟨_,_,_,_,⟨hx,_⟩,_⟩:=q2;obtain⟨cs,el,fr,g7,g8⟩:=hp.row hr hrow;have hle':=g8.le;simp only[Yg,aL]at hle';obtain⟨w',cur',g1,g2,g3,g4,g5,g6,g9⟩:=iM (P:=P) (o:=off) ms 0 cs w g7 (by rw[hv.length];omega) hms g8.2;have hR:=g8.Vs hv hone (by simpa[aL]using hle) g3 g4;obtain⟨s1,s2⟩:=AQ hx h10 hle;have hnew:((aF len x).map eO).take off++(m++((aF len x).map eO).drop (off+m.length))=(aF len (Yi (Yx x (Nat.pow 256 off)) (Yt (Yi mx (Yt (WD x (Yn 8 (Yi off m.length))) (Yn 8 m.length))) (Yn 8 off)))).map eO:=by rw[s1];simp only[Yz,YC1,List.map_drop];rw[<-h9]
  rw[hnew]at hR;obtain⟨p1,p2⟩:=hp.write hr (by grind) h8.n h8.bD h8.wb h8.get h8.xf trivial g9 g6 g2 g5 ⟨cur',el,fr,rfl,⟨s2,λi y hy=>by obtain⟨_,cv,t1,t2⟩:=hR.1 i (eO y) (by grind);rw[t1,t2.X6.2]⟩,hR.2⟩ (λcs2 e2 fr2 h=>by grind) (λr h=>by grind);grind
theorem Z0{t}{x y}(hop:o.op=.store t x y)(h:aQ (ai P nt o) id ph e H k=1):Good P nt o e H k:=by
 simp only[ai,hop]at h;have mem:x∈o.op.operands/\y∈o.op.operands:=by simp[hop,Op.operands]
 have hnd:∀c,o.op≠.defer c:=by simp[hop]
 split at h
 .rename_i x' y' n hx hy hag hsz;have h':wX n x' y' id ph e H k=1:=h;unfold wX at h';rw[aq]at h';obtain⟨b,off,hb,h1⟩:=gu h';rw[aq]at h1;obtain⟨l,hl,h2⟩:=qX h1;obtain⟨h3,h4⟩:=aX h2;have hlen:=cU h3;rw[kF]at hlen;obtain⟨H',h5,h6⟩:=l7 h4;refine⟨_,_,fD.Dy hnd λbase w0 rho w a hp ho=>?_,h5⟩;have vx:=ho x mem.1 x' hx;rw[hb]at vx;obtain⟨c,hc,hm⟩:=vx;have vy:=ho y mem.2 y' hy;rw[hl]at vy;obtain⟨cs,hcs,hr⟩:=vy;have hone:=zU h4;obtain⟨w',g1,g2,g3⟩:=h6 hp hm hone hr;refine⟨w',?_,rho,g2,g3⟩;have hcl:cs.size=n:=by have:=hr.length;simp_all
  simp[execOp,hop,hc,hcs,Instr.storeAt,Instr.sureAddr,storeVar,Value.cells,cY hsz,hcl,g1]
 .rename_i x' y' hx hy hag hsz;have h':wW x' y' id ph e H k=1:=h;unfold wW at h';rw[aq]at h';obtain⟨b,off,hb,h1⟩:=gu h';rw[aq]at h1;obtain⟨hone1,h4⟩:=yC h1;obtain⟨H',h5,h6⟩:=l7 h4;refine⟨_,_,fD.Dy hnd λbase w0 rho w a hp ho=>?_,h5⟩;have vx:=ho x mem.1 x' hx;rw[hb]at vx;obtain⟨c,hc,hm⟩:=vx;have vy:=ho y mem.2 y' hy;have hcl:(a.eval y).cells=#[a.eval y]:=by have:=vy.one hone1;generalize a.eval y=q at this;cases q<;>first|rfl|simp_all|omega
  obtain⟨w',g1,g2,g3⟩:=h6 (ms:=[a.eval y]) hp hm (λv hv=>by simp_all) (by simp only[cA];simp_all);refine⟨w',?_,rho,g2,g3⟩;simp[execOp,hop,hc,Instr.storeAt,Instr.sureAddr,storeVar,hcl,cY hsz,g1]
 .exact(aw h).elim
theorem F8:∀(l:List Value)(j)(off)(cells:Array Value),off+j+l.length<=cells.size->((l.zipIdx j).foldl (λcs(p:Value×Nat)=>cs.setIfInBounds (off+p.2) p.1) cells).size=cells.size/\∀i:Nat,((l.zipIdx j).foldl (λcs(p:Value×Nat)=>cs.setIfInBounds (off+p.2) p.1) cells)[i]?=if off+j<=i/\i<off+j+l.length then l[i-(off+j)]?else cells[i]?
 |[],j,off,cells,_=>⟨rfl,λi=>by rw[if_neg (by simp)];rfl⟩|v::l,j,off,cells,h=>by
  simp only[YH]at h;obtain⟨h1,h2⟩:=F8 l (j+1) off (cells.setIfInBounds (off+j) v) (by simp;omega);refine⟨by simp_all,λi=>?_⟩;simp only[List.zipIdx_cons,Qb,YH];rw[h2];by_cases hi:i=off+j
  .rw[if_neg (by omega),if_pos (by omega)];have hlt:off+j<cells.size:=by omega
   simp_all
  .by_cases hi2:off+(j+1)<=i/\i<off+(j+1)+l.length;.rw[if_pos hi2,if_pos (by omega),show i-(off+j)=(i-(off+(j+1)))+1by omega];simp
   .rw[if_neg hi2,if_neg (by omega),WV (λe=>hi e.symm)]
theorem Le{m}{z l}{cs cs':Array Value}{vs}{off}(hz:cA m z cs.toList)(hl:cA m l vs)(hle:off+l.length<=z.length)(hsz:cs'.size=cs.size)(hg:∀i:Nat,cs'[i]?=if off+0<=i/\i<off+0+vs.length then vs[i-(off+0)]?else cs[i]?):cA m (z.take off++(l++z.drop (off+l.length))) cs'.toList:=by
 have e1:=hz.length;have e2:=hl.length;simp at e1;refine cA.qh (by simp;omega) λi v c h1 h2=>?_;rw[Ys,hg]at h2;by_cases hi1:i<off;.rw[Yp (by simp;omega),List.getElem?_take,if_pos hi1]at h1;rw[if_neg (by omega)]at h2;obtain⟨c',h3,h4⟩:=hz.get h1;simp_all
 .rw[Ym (by simp;omega),show(z.take off).length=off by simp;omega]at h1;by_cases hi2:i-off<l.length;.rw[Yp hi2]at h1;rw[if_pos (by omega)]at h2;obtain⟨c',h3,h4⟩:=hl.get h1;simp_all
  .rw[Ym (by omega),List.getElem?_drop,show off+l.length+(i-off-l.length)=i by omega]at h1;obtain⟨c',h3,h4⟩:=hz.get h1;simp_all
inductive nM(m:M)(e:Env)(place:Nat->Option (Nat×Nat)):List (Nat×Nat×Arg)->List (Nat×Value)->Prop|nil:nM m e place [] []|cons{off size i:Nat}{a:Arg}{v:Value}{l r}(h1:place i=some (off,size))(h2:VR m (aA a e) v)(h:nM m e place l r):nM m e place ((off,size,a)::l) ((i,v)::r)
theorem ym:∀{parts}{z}{f},lj id e parts z f=1->∃z',f z'=1/\z'.length=z.length/\∀(m)(place)(cp)(cs),nM m e place parts cp->cA m z cs.toList->∃cs',Instr.fill place cs cp=some cs'/\cA m z' cs'.toList|[],z,f,h=>⟨z,h,rfl,λm place cp cs hp hz=>by cases hp;exact⟨cs,rfl,hz⟩⟩|(off,size,a)::parts,z,f,h=>by have h':aJ a e (λv=>dU id v λl=>aH (YR (fU l) size) (setAt id l z off λz'=>lj id e parts z' f) (no _))=1:=h;rw[aq]at h';obtain⟨l,h1,h2⟩:=qx h';obtain⟨h3,h4⟩:=aX h1;have hlen:=cU h3;rw[kF]at hlen;obtain⟨h5,h6⟩:=zK h4;obtain⟨z',h7,h70,h8⟩:=ym h6;refine⟨z',h7,h70.trans (by simp;omega),λm place cp cs hp hz=>?_⟩;cases hp with|cons p1 p2 p3=>rename_i i v r;have hvr:=h2 m v p2;have hl2:=hvr.length;have hz2:=hz.length;obtain⟨g1,g2⟩:=F8 v.cells.toList 0 off cs (by simp_all);obtain⟨cs',q1,q2⟩:=h8 m place r _ p3 (Le hz hvr h5 g1 (by omega));refine⟨cs',?_,q2⟩;simp only[Instr.fill,p1];rw[if_neg (by simp_all)];rw[<-q1];rw[<-Array.foldl_toList,Array.toList_zipIdx]
theorem CL{m}{ac:Act}:∀{l}{r},ev nt l=some r->(∀p∈l,∀ar,aN nt p.2=some ar->VR m (aA ar e) (ac.eval p.2))->r.length=l.length/\∀i(h1)(h2:i<r.length),r[i].1=l[i].1/\VR m (aA r[i].2 e) (ac.eval l[i].2)
 |[],r,h,_=>by simp only[ev,Option.some.injEq]at h;simp_all|(j,x)::l,r,h,ho=>by
  simp only[ev]at h;split at h;.rename_i a r' h1 h2;cases h;obtain⟨h3,h4⟩:=CL h2 λp hp=>ho p (YI _ hp);refine⟨by simp_all,λi hi1 hi2=>?_⟩;cases i with|zero=>simp_all|succ i=>simpa using h4 i (by simp_all) (by simp_all)
  simp_all
theorem se{m}{ac:Act}{s}:∀{l}{r},ev nt l=some r->(∀p∈l,∀ar,aN nt p.2=some ar->VR m (aA ar e) (ac.eval p.2))->nM m e (λi=>some (i*s,s)) (qJ s r) (l.map λp=>(p.1,ac.eval p.2))
 |[],r,h,_=>by simp only[ev,Option.some.injEq]at h;subst h;exact .nil|(j,x)::l,r,h,ho=>by
  simp only[ev]at h;split at h;.rename_i a r' h1 h2;cases h;exact .cons rfl (ho (j,x) (YM ..) a h1) (se h2 λp hp=>ho p (YI _ hp))
  simp_all
theorem vY{m}{ac:Act}{pl}:∀{l}{r}{q},ev nt l=some r->lh pl r=some q->(∀p∈l,∀ar,aN nt p.2=some ar->VR m (aA ar e) (ac.eval p.2))->nM m e (pl.toArray[·]?) q (l.map λp=>(p.1,ac.eval p.2))
 |[],r,q,h,hq,_=>by simp only[ev,Option.some.injEq]at h;subst h;simp only[lh,Option.some.injEq]at hq;subst hq;exact .nil|(j,x)::l,r,q,h,hq,ho=>by
  simp only[ev]at h;split at h
  .rename_i a r' h1 h2;cases h;simp only[lh]at hq;split at hq;.rename_i p q' h3 h4;cases hq;exact .cons (by simp_all) (ho (j,x) (YM ..) a h1) (vY h2 h4 λp hp=>ho p (YI _ hp))
   simp_all
  simp_all
theorem ZW{t}{parts}(hop:o.op=.build t parts)(h:aQ (ai P nt o) id ph e H k=1):Good P nt o e H k:=by
 simp only[ai,hop]at h;have hnd:∀c,o.op≠.defer c:=by simp_all
 have hmem:∀p∈parts.toList,p.2∈o.op.operands:=λp hp=>by simp[hop,Op.operands];exact⟨p.1,by simp_all⟩
 have key:∀(z)(q)(place),rI P t=some z->(∀(m)(ac),OR m nt e ac o->nM m e place q (parts.toList.map λp=>(p.1,ac.eval p.2)))->(∀(i)(zv),P.info? t=some i->i.zero=some zv->∀l,P.built t l=Instr.fill place zv.cells l)->Tt z q id ph e H k=1->Good P nt o e H k:=by intro z q place hz hpo hb h';obtain⟨z',h1,_,h2⟩:=ym h';obtain⟨i,zv,hi,hzv,hvr,_⟩:=nJ hz;refine⟨_,_,fD.bN hnd λm w ac ho=>?_,h1⟩;obtain⟨cs',h3,h4⟩:=h2 m place _ _ (hpo m ac ho) (hvr m);refine⟨.agg cs',?_,by simp only[VR];simp_all⟩;have:=run_build (P:=P) w t (parts.map λ(i,x)=>(i,ac.eval x)) cs' (by simp_all);simp[execOp,hop,this]
 split at h
 .rename_i z ps fs hz hps hu;split at h
  .rename_i pl hpl;split at h;.rename_i q hq;exact key z q (pl.toArray[·]?) hz (λm ac ho=>vY hps hq λp hp=>ho p.2 (hmem p hp)) (λi zv hi hzv l=>by unfold MG at hpl;simp[Program.built,hi,hu,hzv,hpl]) h
   .exact(aw h).elim
  .exact(aw h).elim
 .rename_i z ps n el hz hps hu;split at h;.rename_i s hs;simp only[rq,Yj]at hs;obtain⟨ti,hti,hsz⟩:=hs;exact key z _ (λi=>some (i*s,s)) hz (λm ac ho=>se hps λp hp=>ho p.2 (hmem p hp)) (λi zv hi hzv l=>by simp[Program.built,hi,hu,hzv,hti,hsz]) h
  .exact(aw h).elim
 .exact(aw h).elim
theorem B6{z}:∀{c i}{v},(iK c z)[i]?=some v->z[i%z.length]?=some v/\i<c*z.length
 |0,i,v,h=>by simp[iK]at h|c+1,i,v,h=>by
  simp only[iK]at h;by_cases hi:i<z.length;.rw[Yp hi]at h;exact⟨by rw[Nat.mod_eq_of_lt hi];omega,by rw[YQ2];omega⟩
  .rw[Ym (by omega)]at h;obtain⟨h1,h2⟩:=B6 h;refine⟨?_,by rw[YQ2];omega⟩;rw[Nat.mod_eq_sub_mod (by omega)];omega
theorem tO{z}:∀c:Nat,(iK c z).length=c*z.length|0=>by simp[iK]|c+1=>by simp[iK,tO c,YQ2];omega
theorem Ha{m}{z}{zc}(hz:cA m z zc.toList)(c):cA m (iK c z) (madeCells zc (c*z.length)).toList:=by
 have hl:=hz.length;refine cA.qh (by simp[tO,size_madeCells]) λi v cv h1 h2=>?_;obtain⟨h3,h4⟩:=B6 h1;obtain⟨c',h5,h6⟩:=hz.get h3;have hlt:i%z.length<zc.size:=by
  rcases Yh (i%z.length) zc.size with h|h;.omega
  simp_all
 have h7:(madeCells zc (c*z.length))[i]?=some (zc[i%zc.size]!):=by simp[madeCells,h4]
 simp_all
theorem DV{t:TypeId}{len:Nat}{parts:Array (Nat×Operand)}(hop:o.op=.buildSlice t len parts)(h:aQ (ai P nt o) id ph e H k=1):Good P nt o e H k:=by
 simp only[ai,hop]at h;have hnd:∀c,o.op≠.defer c:=by simp[hop]
 have hmem:∀p∈parts.toList,p.2∈o.op.operands:=λp hp=>by simp[hop,Op.operands];exact⟨p.1,by simpa using hp⟩
 split at h
 .rename_i ps el hps hu;split at h
  .rename_i s z hs hz;split at h
   .rename_i hc;simp only[Yu,beq_iff_eq,decide_eq_true_eq]at hc;obtain⟨hc1,hc2⟩:=hc;have h':CX (GJ P el&&decide (0<len)) len (iK len z) (qJ s ps) id ph e H k=1:=h;unfold CX at h';obtain⟨z',h1,hzl,h2⟩:=ym h';obtain⟨i,zv,hi,hzv,hvr,hone⟩:=nJ hz;simp only[rq,Yj]at hs;obtain⟨ti,hti,hsz⟩:=hs;rw[hi]at hti;cases hti;have hrun:∀(w:World)(cs':Array Value)(ac:Act),Instr.fill (λi=>some (i*s,s)) (madeCells zv.cells (len*s)) (parts.toList.map λp=>(p.1,ac.eval p.2))=some cs'->(execOp ac.eval o).run P w=.ok (.value (.slice (some ⟨w.heap.size,0,none⟩) len len)) (w.alloc (.cells cs' el)):=by
     intro w cs' ac hf;have hsz':(sizeOf el).run P w=.ok s w:=by simp[sizeOf,typeInfo,hi,hsz]
     have hzr:(zeroValue el).run P w=.ok zv w:=by simp[zeroValue,typeInfo,hi,hzv]
     have hbig:¬(2^24<len*s):=by omega
     by_cases h0:len*s=0
     .have hm0:madeCells zv.cells (len*s)=#[]:=by rw[h0];simp[madeCells,Array.range_zero']
      rw[hm0]at hf;simp[execOp,hop,Instr.buildSlice,run_underlying hu,hsz',h0,hf,newRow,Array.range_zero']
     .have hf':Instr.fill (λi=>some (i*s,s)) ((Array.range (len*s)).map (λx=>zv.cells[x%zv.cells.size]!)) (parts.toList.map λp=>(p.1,ac.eval p.2))=some cs':=hf;simp[execOp,hop,Instr.buildSlice,run_underlying hu,hsz',hzr,hbig,h0,hf',newRow]
    have fin:∀(bl:eN)(H':Heap),py H bl H'->k (.slice H.n 0 len (WQ len) 0) H'=1->(∀m,cA m z' []->False)\/True->(∀(m:M)(cs':Array Value),cA m z' cs'.toList->rowOf bl=some z'/\(∀ln n,bl=.bytes ln n->n<256^ln)/\∀v∈z',v.one=true)->Good P nt o e H k:=by intro bl H' hN hk _ hrow;refine⟨_,_,fD.of_run hnd λbase w0 rho w a hp ho=>?_,hk⟩;have hmv:=Ha (hvr (mu rho H w)) len;rw[hc2]at hmv;obtain⟨cs',h3,h4⟩:=h2 (mu rho H w) (λi=>some (i*s,s)) _ _ (se hps λp hp'=>ho p.2 (hmem p hp')) hmv;obtain⟨r1,r2,r3⟩:=hrow _ cs' h4;obtain⟨rho',p1,p2,p3⟩:=hp.fresh (w':=w.alloc (.cells cs' el)) (t:=el) hN r1 r2 (jV.exact h4 r3) ⟨rfl,rfl,rfl⟩ rfl;exact⟨_,_,hrun w cs' a h3,rho',by simp only[VR];exact⟨_,_,_,_,rfl,p3,YC _,⟨λq hq=>by injection hq,λh=>absurd h (by omega)⟩,YF ⟨rfl,rfl⟩⟩,p1,p2⟩
    rcases bS h1 with⟨h3,h4⟩|⟨h3,h4⟩;.obtain⟨n,h5,h6,h7⟩:=qj h4;obtain⟨H',h8,h9⟩:=dP h5;refine fin _ H' h9 h8 (YD trivial) λm cs' hm=>?_;obtain⟨g1,g2⟩:=h7 hm.small;exact⟨by simp only[rowOf];rw[<-g1],λln n' e=>by cases e;exact g2,λv hv=>by obtain⟨x,rfl⟩:=h6 v hv;rfl⟩
    .obtain⟨h5,h6⟩:=fE h4;obtain⟨H',h8,h9⟩:=dP h6;exact fin _ H' h9 h8 (YD trivial) λm cs' hm=>⟨rfl,λln n' e=>(by cases e),h5⟩
   .exact(aw h).elim
  .exact(aw h).elim
 .exact(aw h).elim
theorem Ib{t}{l c}(hop:o.op=.makeSlice t l c)(h:aQ (ai P nt o) id ph e H k=1):Good P nt o e H k:=by
 simp only[ai,hop]at h;have hnd:∀c,o.op≠.defer c:=by simp_all
 have mem:l∈o.op.operands/\c∈o.op.operands:=by simp[hop,Op.operands]
 split at h
 .rename_i l' c' el hl hc hu;split at h
  .rename_i z s i hz hs hi;split at h
   .rename_i hcond;simp only[Yu,beq_iff_eq,decide_eq_true_eq]at hcond;obtain⟨⟨hzs,hs0⟩,hby⟩:=hcond;have h':ya (z8 z&&s==1) z l' c' id ph e H k=1:=h;unfold ya at h';rw[aq]at h';obtain⟨kl,ln,hln,h1⟩:=dL h';rw[aq]at h1;obtain⟨kc,cn,hcn,h2⟩:=dL h1;obtain⟨h3,h4⟩:=aX h2;obtain⟨h5,h6⟩:=aX h4;obtain⟨h7,h8⟩:=aX h6;obtain⟨h9,h10⟩:=aX h8;have hle:=cH h7;have hcs:=cH h9;obtain⟨i',zv,hi',hzv,hvr,hone⟩:=nJ hz;rw[hi]at hi';cases hi';have hsz:=by simpa[rq,hi]using hs
    have fin:∀(bl)(H'),py H bl H'->k (.slice H.n 0 ln (WQ cn) 0) H'=1->rowOf bl=some (iK cn z)->(∀ln n,bl=.bytes ln n->n<256^ln)->(∀v∈iK cn z,v.one=true)->Good P nt o e H k:=by intro bl H' hN hk r1 r2 r3;refine⟨_,_,fD.of_run hnd λbase w0 rho w a hp ho=>?_,hk⟩;have vl:=ho l mem.1 l' hl;have vc:=ho c mem.2 c' hc;rw[hln]at vl;rw[hcn]at vc;simp only[VR]at vl vc;have hmv:=Ha (hvr (mu rho H w)) cn;rw[hzs]at hmv;obtain⟨rho',p1,p2,p3⟩:=hp.fresh (w':=w.alloc (.cells (madeCells zv.cells (cn*s)) el)) hN r1 r2 (jV.exact hmv r3) ⟨rfl,rfl,rfl⟩ rfl;refine⟨.slice (some ⟨w.heap.size,0,none⟩) ln cn,w.alloc (.cells (madeCells zv.cells (cn*s)) el),?_,rho',by simp only[VR];exact⟨_,_,_,_,rfl,p3,hle,⟨λq hq=>by omega,λh=>absurd h (by omega)⟩,YF ⟨rfl,rfl⟩⟩,p1,p2⟩;have hm:=run_make w t el i zv hu hi hzv (pZ kl) (pZ kc) (ln:Int) (cn:Int) (by omega) (by omega) (by have:=YS3 hby hcs;omega) (by omega);rw[toI_64 (cH h3) vl.2.2 (by omega) vl.2.1]at vl;rw[toI_64 (cH h5) vc.2.2 (by omega) vc.2.1]at vc;simp only[Int.toNat_natCast,hsz]at hm;simp[execOp,hop,vl.1,vc.1,hm]
    rcases bS h10 with⟨h11,h12⟩|⟨h11,h12⟩
    .obtain⟨H',h13,h14⟩:=dP h12;rw[ay]at h13;simp only[Yu,beq_iff_eq]at h11;have hz1:z=[.int 4 0]:=by have:=MR h11.1;rw[hzs,h11.2]at this;exact this
     have hrep:∀q,(aF q 0).map eO=iK q z:=by intro q;rw[hz1];induction q with|zero=>rfl|succ q ih=>simp only[aF,YP,iK,List.cons_append,YJ,<-ih];rfl
     exact fin _ H' h14 h13 (by simp only[rowOf];simp_all) (λln n e=>by cases e;exact YA3 (by simp)) (λv hv=>by rw[<-hrep]at hv;obtain⟨y,_,rfl⟩:=YW.1 hv;rfl)
    .rw[DQ]at h12;obtain⟨h13,h14⟩:=fE h12;obtain⟨H',h15,h16⟩:=dP h14;exact fin _ H' h16 h15 rfl (λln n e=>by cases e) h13
   .exact(aw h).elim
  .exact(aw h).elim
 .exact(aw h).elim
theorem Jv(k k')(a)(ha:a<fJ k)(hc:¬(k.signed=true/\k.bits<k'.bits)):k'.wrap (toI k a)=toI k' (a%2^k'.bits):=by show k'.wrap (k.wrap (a:Int))=k'.wrap ((a%2^k'.bits:Nat):Int);unfold fJ at ha;cases k<;>cases k'<;>simp[IntKind.wrap,IntKind.bits,IntKind.signed]at*<;>(omega)<;>omega
theorem NK(k k':IntKind)(a:Nat)(ha:a<fJ k)(hc:k.signed=true/\k.bits<k'.bits):k'.wrap (toI k a)=toI k' (if a<2^(k.bits-1)then a else a+(2^k'.bits-2^k.bits))/\(if a<2^(k.bits-1)then a else a+(2^k'.bits-2^k.bits))<fJ k':=by
 unfold fJ at ha⊢;by_cases hlt:a<2^(k.bits-1)
 .rw[if_pos hlt];constructor;.show k'.wrap (k.wrap (a:Int))=k'.wrap (a:Int);apply sE;cases k<;>cases k'<;>simp[IntKind.wrap,IntKind.bits,IntKind.signed]at*<;>(try split)<;>omega
  .cases k<;>cases k'<;>simp[IntKind.bits,IntKind.signed]at*<;>omega
 .rw[if_neg hlt];constructor;.show k'.wrap (k.wrap (a:Int))=k'.wrap ((a+(2^k'.bits-2^k.bits):Nat):Int);apply sE;cases k<;>cases k'<;>simp[IntKind.wrap,IntKind.bits,IntKind.signed]at*<;>(try split)<;>omega
  .cases k<;>cases k'<;>simp[IntKind.bits,IntKind.signed]at*<;>omega
theorem zu:∀(ns:List Int)(s:ByteArray),(ns.foldl (λr n=>r.push (UInt8.ofNat n.toNat)) s).data.toList=s.data.toList++ns.map λn=>UInt8.ofNat n.toNat|[],s=>by simp|n::ns,s=>by rw[Qb,zu ns];simp
theorem Cj{m}:∀{l:List UInt8}{cs},cA m (l.map eO) cs->cs=(l.map λx=>(x.toNat:Int)).map (Value.int .u8)|[],cs,h=>by simp only[YZ,cA]at h;simp_all|x::l,cs,h=>by obtain⟨c,r,rfl,h1,h2⟩:=h;rw[Cj h2];congr 1;exact h1.X6.2
theorem Kb{b off n}{f}(h:nv id H b off n f=1):∃x,f x=1/\∀{base}{w0 w}{rho}{c},PR P base w0 rho H w->(mu rho H w).b b c->x<256^n/\(loadCells ⟨c,off,none⟩ n).run P w=.ok (((aF n x).map λy=>(y.toNat:Int)).map (Value.int .u8)).toArray w:=by
 obtain⟨row,x,h1,h2,h3,h4,h5⟩:=yO h;refine⟨x,h3,λ{base w0 w rho c}hp hm=>?_⟩;obtain⟨cs,g1,g2,g3⟩:=hp.cells (hp.mE hm h1) h1 h2;obtain⟨h6,h7⟩:=h5 g2.small;have hl:((row.drop off).take n).length=n:=by simp;omega
 rw[hl]at h6 h7;rw[h6]at g2;refine⟨h7,?_⟩;rw[g1,Cj g2]
theorem Ec(l x):(((aF l x).map λy=>(y.toNat:Int)).foldl (λr n=>r.push (UInt8.ofNat n.toNat)) ByteArray.empty)=⟨(aF l x).toArray⟩:=by
 apply Go.WideShapes.bytes_inj;rw[zu];have he:(ByteArray.empty).data.toList=[]:=rfl;rw[he,YJ,List.map_map];conv=>rhs;rw[<-List.map_id (aF l x)]
 apply List.map_congr_left;simp
theorem tQ{t}{s}{w}(hbig:s.size<=16777216):∃cap w',(s.size<=cap/\cap<9223372036854775808)/\(Conv.stringToBytes t s).run P w=.ok (.slice (some ⟨w.heap.size,0,none⟩) s.size cap) w'/\xq w w'/\w'.heap=w.heap.push (.cells (s.data.map (λb=>Value.int .u8 b.toNat)++Ql (cap-s.size) (Value.int .u8 0)) t (cap,cap+1)):=by
 refine⟨(Question.appendCap s.size 0 t).cut (w.tape w.drawn (.appendCap s.size 0 t)),?_⟩;have hle:s.size<=(Question.appendCap s.size 0 t).cut (w.tape w.drawn (.appendCap s.size 0 t))/\(Question.appendCap s.size 0 t).cut (w.tape w.drawn (.appendCap s.size 0 t))<9223372036854775808:=by have hmod:=Qq (w.tape w.drawn (.appendCap s.size 0 t)) (show 0<2^63-s.size by omega);simp only[Question.cut];omega
 generalize hcap:(Question.appendCap s.size 0 t).cut (w.tape w.drawn (.appendCap s.size 0 t))=cap at hle⊢;have hsz:(s.data.map (λb=>Value.int .u8 b.toNat)++Ql (cap-s.size) (Value.int .u8 0)).size=cap:=by simp_all
 generalize hcs:s.data.map (λb=>Value.int .u8 b.toNat)++Ql (cap-s.size) (Value.int .u8 0)=cs at hsz⊢;refine⟨{w with heap:=w.heap.push (.cells cs t (cap,cap+1)),drawn:=w.drawn+1},hle,?_,⟨rfl,rfl,rfl⟩,rfl⟩;simp only[Conv.stringToBytes,Sem.run_bind,run_choose,Question.forced,YV,if_false,Result.andThen_ok,hcap,newRow,run_newObj,Sem.run_pure,markStringish,run_shape,hcs];have h1:({w with heap:=w.heap.push (.cells cs t),drawn:=w.drawn+1}:World).shape? w.heap.size=some (t,cap):=by simp[World.shape?,hsz]
 have h2:({w with heap:=w.heap.push (.cells cs t),drawn:=w.drawn+1}:World).freeze ⟨w.heap.size,cap,none⟩ 1={w with heap:=w.heap.push (.cells cs t (cap,cap+1)),drawn:=w.drawn+1}:=by
  simp only[World.freeze,Nat.one_ne_zero,if_false];congr 1;apply Array.ext_getElem?;intro i;rw[Array.getElem?_modify];by_cases hi:i=w.heap.size;.simp_all
  .rw[if_neg (λe=>hi e.symm)];simp only[QS,if_neg hi]
 simp_all
theorem PC{src dst:TypeId}{x:Operand}(hop:o.op=.convert src dst x)(h:aQ (ai P nt o) id ph e H k=1):Good P nt o e H k:=by
 simp only[ai,hop]at h;have mem:x∈o.op.operands:=by simp[hop,Op.operands]
 have hnd:∀c,o.op≠.defer c:=by simp[hop]
 split at h
 .rename_i x' kx kd hx hs hd;have key:∀(mode c:Nat),JK (mq kx) (mq kd) mode c x' id ph e H k=1->(∀a r,a<fJ kx->(if mode=0then a%c else if a<mode then a else a+c)=r->kd.wrap (toI kx a)=toI kd r/\r<fJ kd)->Good P nt o e H k:=by
   intro mode c h' hr;unfold JK at h';rw[aq]at h';obtain⟨k1,a,ha,h1⟩:=dL h';obtain⟨h2,h3⟩:=aX h1;have:=cU h2;subst this;have h4:k (.int (mq kd) (if mode=0then a%c else if a<mode then a else a+c)) H=1:=by cases mode with|zero=>have h5:av (Yx a c) (λr=>k (.int (mq kd) r) H)=1:=h3;rw[ay]at h5;exact h5|succ n=>
     have h5:aH (WC a (n+1)) (k (.int (mq kd) a) H) (av (Yi a c) λr=>k (.int (mq kd) r) H)=1:=h3;rw[if_neg (by omega)];rcases bS h5 with⟨h6,h7⟩|⟨h6,h7⟩;.rw[if_pos (fu h6)];exact h7
     .rw[ay]at h7;rw[if_neg];.exact h7
      .intro hlt;have:WC a (n+1)=true:=WX hlt;rw[this]at h6;cases h6
   refine⟨_,_,fD.bN hnd λm w ac ho=>?_,h4⟩;have v:=ho x mem x' hx;rw[ha]at v;simp only[VR,dQ]at v;obtain⟨h5,h6⟩:=hr a _ v.2.1 rfl;refine⟨.int kd (kd.wrap (toI kx a)),?_,?_⟩;.simp[execOp,hop,v.1,convert,run_underlying hs,run_underlying hd,Conv.intToInt]
   .rw[h5];simp only[VR,dQ];exact⟨trivial,h6,yG kd⟩
  unfold uo at h;split at h;.rename_i hc;simp only[Yu,decide_eq_true_eq]at hc;refine key (2^(kx.bits-1)) (2^kd.bits-2^kx.bits) h λa r ha hr=>?_;rw[if_neg (by cases kx<;>decide)]at hr;rw[<-hr];exact NK kx kd a ha hc
  .rename_i hc;simp only[Yu,decide_eq_true_eq]at hc;refine key 0 (2^kd.bits) h λa r ha hr=>?_;rw[if_pos rfl]at hr;rw[<-hr];exact⟨Jv kx kd a ha hc,Qq _ (yF kd)⟩
 .rename_i x' el hx hs hd;split at h
  .rename_i hu8;have hel:P.underlying el=some (.int .u8):=by
    unfold GJ at hu8;split at hu8;.assumption
    .cases hu8
   have h':xZ x' id ph e H k=1:=h;unfold xZ at h';rw[aq]at h';rcases fZ h' with⟨b,off,l,cp,sz,hb,h1⟩|⟨hb,h1⟩
   .obtain⟨n,h2,h3⟩:=Kb (P:=P) h1;refine⟨_,_,fD.of_run hnd λbase w0 rho w a hp ho=>?_,h2⟩;have v:=ho x mem x' hx;rw[hb]at v;simp only[VR]at v;obtain⟨c,cap,o',sp,hc,hm,hle,hcp,ho'⟩:=v;obtain⟨h4,h5⟩:=h3 hp hm;have h5':(loadCells ⟨c,o',sp⟩ l).run P w=.ok (((aF l n).map λy=>(y.toNat:Int)).map (Value.int .u8)).toArray w:=by
     rcases ho' with⟨rfl,rfl⟩|h6;.exact h5
     .have:l=0:=by omega
      subst this;rfl
    refine⟨.string ⟨(aF l n).toArray⟩,w,?_,rho,by simp only[VR];exact⟨trivial,h4⟩,hp,Ext.refl hp.lt⟩;have hr:=run_bytesToString (P:=P) w ⟨c,o',sp⟩ l cap _ h5';rw[Ec]at hr;simp only[execOp,hop,hc,Sem.run_bind,run_convert_bytes_string w src dst el (some ⟨c,o',sp⟩) l cap hs hel hd,hr,Result.andThen_ok,Sem.run_pure]
   .refine⟨_,_,fD.bN hnd λm w ac ho=>?_,h1⟩;have v:=ho x mem x' hx;rw[hb]at v;simp only[VR]at v;refine⟨.string ByteArray.empty,?_,by simp only[VR];exact⟨rfl,by decide⟩⟩;simp only[execOp,hop,v,Sem.run_bind,run_convert_bytes_string w src dst el none 0 0 hs hel hd,Conv.bytesToString,Sem.run_pure,Result.andThen_ok]
  .exact(aw h).elim
 .rename_i x' el hx hs hd;split at h
  .rename_i hu8;have hel:P.underlying el=some (.int .u8):=by
    unfold GJ at hu8;split at hu8;.assumption
    .cases hu8
   have h':x9 x' id ph e H k=1:=h;unfold x9 at h';rw[aq]at h';obtain⟨l,n,hb,h1⟩:=eJ h';obtain⟨hl,h1⟩:=aX h1;obtain⟨H',h2,h3⟩:=dP h1;refine⟨_,_,fD.of_run hnd λbase w0 rho w a hp ho=>?_,h2⟩;have v:=ho x mem x' hx;rw[hb]at v;simp only[VR]at v;obtain⟨cap,w',g1,g2,g3,g4⟩:=tQ (P:=P) (t:=el) (s:=⟨(aF l n).toArray⟩) (w:=w) (by simp[ByteArray.size,aL];exact cH hl);have hsz:(⟨(aF l n).toArray⟩:ByteArray).size=l:=by simp[ByteArray.size,aL]
   rw[hsz]at g1 g2 g4;have hR:jV (mu rho H w) ((aF l n).map eO) ((⟨(aF l n).toArray⟩:ByteArray).data.map (λb=>Value.int .u8 b.toNat)++Ql (cap-l) (Value.int .u8 0)) (cap,cap+1):=by
    refine⟨λi v hi=>?_,λi hi=>?_⟩
    .rw[Yq,Yj]at hi;obtain⟨y,hy,rfl⟩:=hi;refine⟨rfl,.int .u8 y.toNat,?_,wS _ y⟩;have hlt:i<l:=by
      rcases Yh i l with h|h;.exact h
      .rw[WT (by rw[aL];exact h)]at hy;cases hy
     rw[Qh (by simp[aL];exact hlt)];simp[hy]
    .simp[aL]at hi⊢;omega
   obtain⟨rho',p1,p2,p3⟩:=hp.fresh (w':=w') h3 rfl (λln m' e=>by cases e;exact v.2) hR g3 g4;refine⟨.slice (some ⟨w.heap.size,0,none⟩) l cap,w',?_,rho',by simp only[VR];exact⟨_,_,_,_,rfl,p3,g1.1,⟨λq hq=>absurd hq (by omega),λ_=>YD ⟨⟨_,_,_,by rw[g4,Qr],by have hle:(aF l n).length=l:=aL l n;simp[aL];omega⟩,g1.2⟩⟩,YF ⟨rfl,rfl⟩⟩,p1,p2⟩;simp[execOp,hop,v.1,convert,run_underlying hs,run_underlying hd,run_underlying hel,g2]
  .exact(aw h).elim
 .rename_i x' hx hs hd;have h':FQ x' (.c (.str 0 0)) id ph e H k=1:=h;unfold FQ at h';rw[aq]at h';obtain⟨l,n,hb,h1⟩:=eJ h';rw[aq]at h1;obtain⟨l2,n2,hb2,h2⟩:=eJ h1;simp only[aA,V.str.injEq]at hb2;obtain⟨rfl,rfl⟩:=hb2;rw[ay]at h2;obtain⟨_,h3⟩:=aX h2;rw[ay]at h3;have e1:Yi n (Yt 0 (Yn 8 l))=n:=by show n+0<<<(8*l)=n;simp
  rw[e1]at h3;refine⟨_,_,fD.bN hnd λm w ac ho=>?_,h3⟩;have v:=ho x mem x' hx;rw[hb]at v;simp only[VR]at v;exact⟨ac.eval x,by simp[execOp,hop,v.1,convert,run_underlying hs,run_underlying hd],by simp only[VR];exact v⟩
 .exact(aw h).elim
def ru(m:M)(e:Env)(x:Option Arg)(cv:Option Value):Prop:=match x,cv with|none,none=>True|some a,some c=>VR m (aA a e) c|_,_=>False
theorem iH{m}{ac:Act}{x}{x'}(h:Kr nt x=some x')(ho:∀y,x=some y->∀ar,aN nt y=some ar->VR m (aA ar e) (ac.eval y)):ru m e x' (x.map ac.eval):=by cases x with|none=>simp only[Kr,Option.some.injEq]at h;subst h;trivial|some y=>simp only[Kr,Yj]at h;obtain⟨a,h1,rfl⟩:=h;exact ho y rfl a h1
theorem kZ{x}{d}{f}(h:iw id x e d f=1):∃n,f n=1/\(x=none->n=d)/\∀(m)(cv),ru m e x cv->x.isSome=true->∃kd,cv=some (.int kd n):=by cases x with|none=>exact⟨d,h,λ_=>rfl,λ_ _ _ h=>by cases h⟩|some a=>have h':aJ a e (λv=>cI id v λkd n=>aH (Yd 3 kd) (aH (WC n 9223372036854775808) (f n) (no _)) (no _))=1:=h;rw[aq]at h';obtain⟨kd,n,hn,h1⟩:=dL h';obtain⟨h2,h3⟩:=aX h1;obtain⟨h4,h5⟩:=aX h3;refine⟨n,h5,λh=>(by cases h),λm cv hb _=>?_⟩;cases cv with|none=>exact hb.elim|some c=>have hv:VR m (aA a e) c:=hb;rw[hn]at hv;exact⟨pZ kd,by rw[hv.1,toI_64 (cH h2) hv.2.2 (fu h4) hv.2.1]⟩
theorem run_sliceBound{kd}{n y:Nat}{code}{w}(h:n<=y):(Instr.sliceBound (.int kd n) y code).run P w=.ok n w:=by simp[Instr.sliceBound,asIntOf,h]
theorem gZ{isS}{len cap l h mm:Nat}{m}{lo hi mx}{clo chi cmx}{w}(b1:ru m e lo clo)(b2:ru m e hi chi)(b3:ru m e mx cmx)(hlo:lo=none->l=0)(hhi:hi=none->h=len)(hmx:mx=none->mm=cap)(hlo':∀(m)(cv),ru m e lo cv->lo.isSome=true->∃kd,cv=some (.int kd l))(hhi':∀(m)(cv),ru m e hi cv->hi.isSome=true->∃kd,cv=some (.int kd h))(hmx':∀(m)(cv),ru m e mx cv->mx.isSome=true->∃kd,cv=some (.int kd mm))(hno:hi=none->mx=none)(h1:l<=h)(h2:h<=mm)(h3:mm<=cap):(Instr.sliceBounds isS len cap clo chi cmx).run P w=.ok (l,h,mm) w:=by cases mx with
 |none=>cases cmx with|some _=>exact b3.elim|none=>have:=hmx rfl;subst this;cases hi with
   |none=>cases chi with|some _=>exact b2.elim|none=>have:=hhi rfl;subst this;cases lo with
     |none=>cases clo with|some _=>exact b1.elim|none=>have:=hlo rfl;subst this;rfl
     |some a=>obtain⟨kd,rfl⟩:=hlo' _ _ b1 rfl;simp[Instr.sliceBounds,run_sliceBound h1]
   |some a2=>obtain⟨kd2,rfl⟩:=hhi' _ _ b2 rfl;cases lo with
    |none=>cases clo with|some _=>exact b1.elim|none=>have:=hlo rfl;subst this;simp[Instr.sliceBounds,run_sliceBound h2]
    |some a=>obtain⟨kd,rfl⟩:=hlo' _ _ b1 rfl;simp[Instr.sliceBounds,run_sliceBound h1,run_sliceBound h2]
 |some a3=>obtain⟨kd3,rfl⟩:=hmx' _ _ b3 rfl;cases hi with|none=>simp_all|some a2=>obtain⟨kd2,rfl⟩:=hhi' _ _ b2 rfl;cases lo with
   |none=>cases clo with|some _=>exact b1.elim|none=>have:=hlo rfl;subst this;simp[Instr.sliceBounds,run_sliceBound h2,run_sliceBound h3]
   |some a=>obtain⟨kd,rfl⟩:=hlo' _ _ b1 rfl;simp[Instr.sliceBounds,run_sliceBound h1,run_sliceBound h2,run_sliceBound h3]
theorem ZZ{t:TypeId}{x:Operand}{lo hi mx:Option Operand}(hop:o.op=.slice t x lo hi mx)(h:aQ (ai P nt o) id ph e H k=1):Good P nt o e H k:=by
 simp only[ai,hop]at h;have mem:x∈o.op.operands:=by simp[hop,Op.operands]
 have mlo:∀y,lo=some y->y∈o.op.operands:=λy hy=>by subst hy;simp[hop,Op.operands]
 have mhi:∀y,hi=some y->y∈o.op.operands:=λy hy=>by subst hy;simp[hop,Op.operands]
 have mmx:∀y,mx=some y->y∈o.op.operands:=λy hy=>by subst hy;simp[hop,Op.operands]
 have hnd:∀c,o.op≠.defer c:=by simp[hop]
 split at h;rotate_left;.exact(aw h).elim
 rename_i x' lo' hi' mx' hx hlo hhi hmx;split at h
 .rename_i hu;split at h
  .have h':acn x' lo' hi' id ph e H k=1:=h;unfold acn at h';rw[aq]at h';obtain⟨len,n,hb,h1⟩:=eJ h';obtain⟨hh,h2,h3,h4⟩:=kZ h1;obtain⟨ll,h5,h6,h7⟩:=kZ h2;obtain⟨h8,h9⟩:=aX h5;obtain⟨h10,h11⟩:=aX h9;rw[ay,ay]at h11;have hl:=cH h8;have hh':=cH h10;refine⟨_,_,fD.bN hnd λm w ac ho=>?_,h11⟩;have v:=ho x mem x' hx;rw[hb]at v;simp only[VR]at v;have nX:mx=none:=by cases mx with|none=>rfl|some y=>simp[Kr]at hmx
   subst nX;have hsb:=gZ (P:=P) (isS:=false) (len:=len) (cap:=len) (l:=ll) (h:=hh) (mm:=len) (w:=w) (mx:=none) (cmx:=none) (iH (m:=m) (ac:=ac) hlo λy hy=>ho y (mlo y hy)) (iH (m:=m) (ac:=ac) hhi λy hy=>ho y (mhi y hy)) trivial h6 h3 (λ_=>rfl) h7 h4 (λ_ _ _ h=>by cases h) (λ_=>rfl) hl hh' (YC _);have e1:Yx (WD n (Yn 8 ll)) (Nat.pow 256 (QO hh ll))=n/256^ll%256^(hh-ll):=by show(n>>>(8*ll))%256^(hh-ll)=_;rw[Nat.shiftRight_eq_div_pow,QY]
   rw[e1];refine⟨.string ⟨(aF (hh-ll) (n/256^ll%256^(hh-ll))).toArray⟩,?_,by simp only[VR];exact⟨rfl,Qq _ (YA3 (by decide))⟩⟩;have hsz:(⟨(aF len n).toArray⟩:ByteArray).size=len:=by simp[ByteArray.size,aL]
   have hex:(⟨(aF len n).toArray⟩:ByteArray).extract ll hh=⟨(aF (hh-ll) (n/256^ll%256^(hh-ll))).toArray⟩:=by apply Go.WideShapes.bytes_inj;rw[ByteArray.data_extract];simp only[Array.toList_extract,List.extract_eq_take_drop];rw[jS _ _ _ (by omega),jT _ _ _ (by omega)];exact oE _ _ _ (by simp)
   simp[execOp,hop,v.1,Instr.sliceAt,Instr.slice,run_underlying hu,hsz,hsb,hex]
  .exact(aw h).elim
 .rename_i el hu;split at h
  .rename_i s hs;have hfin:aco s x' lo' hi' mx' id ph e H k=1/\(hi'=none->mx'=none):=by
    split at h;.exact(aw h).elim
    .rename_i hno;exact⟨h,λh1=>by cases mx' with|none=>rfl|some a=>exact(hno a h1 rfl).elim⟩
   obtain⟨h',hno⟩:=hfin;unfold aco at h';rw[aq]at h';rcases fZ h' with⟨b,off,len,cp,sz,hb,h1⟩|⟨hb,h1⟩
   .obtain⟨ll,h2,h3,h4⟩:=kZ h1;obtain⟨hh,h5,h6,h7⟩:=kZ h2;obtain⟨h8,h9⟩:=aX h5;have hle:=cH h8;rw[ay]at h9;have key:∀(cp':Nat)(off':Nat)(sz':Nat),k (.slice b off' (hh-ll) cp' sz') H=1->(cp'=0->cp=0/\sz'=sz/\sz=s/\mx'=none)->(∀(c cap o':Nat)(m:M)(cmx:Option Value),ru m e mx' cmx->len<=cap->(∀q,cp=q+1->cap=q)->(o'=off\/cap=0)->∃mm,hh<=mm/\mm<=cap/\(mx'=none->mm=cap)/\(∀(m:M)(cv:Option Value),ru m e mx' cv->mx'.isSome=true->∃kd,cv=some (.int kd mm))/\(∀q,cp'=q+1->mm-ll=q)/\((if mm=ll then o' else o'+ll*s)=off'\/mm-ll=0))->Good P nt o e H k:=by
     intro cp' off' sz' hk hsz0 hmm;refine⟨_,_,fD.bN hnd λm w ac ho=>?_,hk⟩;have v:=ho x mem x' hx;rw[hb]at v;simp only[VR]at v;obtain⟨c,cap,o',sp,hc,hm,hlc,hcp,ho'⟩:=v;have bm:=iH (m:=m) (ac:=ac) (e:=e) hmx λy hy=>ho y (mmx y hy);obtain⟨mm,g1,g2,g3,g4,g5,g6⟩:=hmm c cap o' m _ bm hlc hcp.1 (ho'.imp (·.1) λh=>h);have hsb:=gZ (P:=P) (isS:=true) (len:=len) (cap:=cap) (l:=ll) (h:=hh) (mm:=mm) (w:=w) (iH (m:=m) (ac:=ac) hlo λy hy=>ho y (mlo y hy)) (iH (m:=m) (ac:=ac) hhi λy hy=>ho y (mhi y hy)) bm h3 h6 g3 h4 h7 g4 hno hle g1 g2;refine⟨.slice (some ⟨c,if mm=ll then o' else o'+ll*s,sp⟩) (hh-ll) (mm-ll),?_,?_⟩
     .have ha:(if mm=ll then some (⟨c,o',sp⟩:Addr)else Option.map (λx=>x.add (ll*s)) (some (⟨c,o',sp⟩:Addr)))=some ⟨c,if mm=ll then o' else o'+ll*s,sp⟩:=by
       split;.rfl
       .have hsp:sp=none:=by
         rcases ho' with h|h;.exact h.2
         .omega
        rw[hsp];simp[Addr.add_lit]
      simp only[execOp,hop,hc,Instr.sliceAt,Sem.run_bind,run_underlying hu,Result.andThen_ok,Instr.slice,hsb,cY hs,Sem.run_pure,ha]
     .simp only[VR];refine⟨c,mm-ll,_,_,rfl,hm,by omega,⟨g5,λh0=>?_⟩,?_⟩;rotate_left
      .rcases g6 with g6|g6
       .rcases ho' with h|h;.exact YF ⟨g6,h.2⟩
        .exact YD (by omega)
       .exact YD g6
      obtain⟨q1,q2,q3,q4⟩:=hsz0 h0;by_cases hml:mm=ll;.left;omega
      .have hcapm:=g3 q4;rcases hcp.2 q1 with q5|q5;.left;omega
       .right;rw[if_neg hml,q2,q3];have:o'+ll*s+(mm-ll)*s=o'+cap*s:=by rw[Nat.add_assoc,<-Wi];congr 2;omega
        rw[this,<-q3];exact⟨q5.1,by have:=q5.2;omega⟩
    cases mx' with
    |none=>cases cp with
     |zero=>
      have h10:aH (Yd hh len) (aH (YR sz s) (av (Yi off (Yn ll s)) λo'=>k (.slice b o' (QO hh ll) 0 sz) H) (no _)) (no _)=1:=h9;obtain⟨h11,h12⟩:=aX h10;obtain⟨hszs,h12⟩:=aX h12;have hszs:=cU hszs;rw[ay]at h12;have hhl:=cH h11;refine key 0 (off+ll*s) sz h12 (λ_=>⟨rfl,rfl,hszs,rfl⟩) λc cap o' m cmx bm hlc hcp ho'=>⟨cap,by omega,YC _,λ_=>rfl,λ_ _ _ h=>(by cases h),λq hq=>absurd hq (by omega),?_⟩;by_cases hcl:cap=ll;.right;omega
      .left;rw[if_neg hcl];rcases ho' with rfl|h13;.rfl
       .omega|succ q=>
      have h10:aH (Yd hh q) (aH (YR q ll) (k (.slice b off (QO hh ll) 1 0) H) (av (Yi off (Yn ll s)) λo'=>av (WQ (QO q ll)) λc'=>k (.slice b o' (QO hh ll) c' 0) H)) (no _)=1:=h9;obtain⟨h11,h12⟩:=aX h10;have hhq:=cH h11;rcases bS h12 with⟨h13,h14⟩|⟨h13,h14⟩;.have:=cU h13;subst this;refine key 1 off 0 h14 (λh=>absurd h (by omega)) λc cap o' m cmx bm hlc hcp ho'=>?_;have:=hcp q rfl;subst this;refine⟨cap,hhq,YC _,λ_=>rfl,λ_ _ _ h=>(by cases h),λr hr=>by omega,YD (by omega)⟩
      .rw[ay,ay]at h14;rw[fL]at h13;have hne:q≠ll:=by simpa using h13
       refine key _ _ 0 h14 (λh=>absurd h (by omega)) λc cap o' m cmx bm hlc hcp ho'=>?_;have:=hcp q rfl;subst this;refine⟨cap,hhq,YC _,λ_=>rfl,λ_ _ _ h=>(by cases h),λr hr=>by injection hr,YF ?_⟩;rw[if_neg hne];rcases ho' with rfl|h15;.rfl
       .omega
    |some am=>
     have h10:iw id (some am) e 0 (λm=>aH (Yd hh m) (aH (Yd m (Nat.rec (motive:=λ_=>Nat) len (λq _=>q) cp)) (aH (YR m ll) (k (.slice b off (QO hh ll) 1 0) H) (av (Yi off (Yn ll s)) λo'=>av (WQ (QO m ll)) λc'=>k (.slice b o' (QO hh ll) c' 0) H)) (no _)) (no _))=1:=h9;obtain⟨mm,h11,_,h13⟩:=kZ h10;obtain⟨h14,h15⟩:=aX h11;obtain⟨h16,h17⟩:=aX h15;have hhm:=cH h14;have hmc:=cH h16;have hcap:∀cap:Nat,len<=cap->(∀q,cp=q+1->cap=q)->mm<=cap:=λcap q1 q2=>by clear h9 h10 h17 h11 h15;cases cp with|zero=>exact Nat.le_trans (show mm<=len from hmc) q1|succ q=>rw[q2 q rfl];exact hmc
     rcases bS h17 with⟨h18,h19⟩|⟨h18,h19⟩;.have:=cU h18;subst this;exact key 1 off 0 h19 (λh=>absurd h (by omega)) λc cap o' m cmx bm hlc hcp ho'=>⟨mm,hhm,hcap cap hlc hcp,λh=>(by cases h),h13,λr hr=>by omega,YD (by omega)⟩
     .rw[ay,ay]at h19;rw[fL]at h18;have hne:mm≠ll:=by simpa using h18
      refine key _ _ 0 h19 (λh=>absurd h (by omega)) λc cap o' m cmx bm hlc hcp ho'=>⟨mm,hhm,hcap cap hlc hcp,λh=>(by cases h),h13,λr hr=>(by injection hr),YF ?_⟩;rw[if_neg hne];rcases ho' with rfl|h20;.rfl
      .have:=hcap cap hlc hcp;omega
   .obtain⟨ll,h2,h3,h4⟩:=kZ h1;obtain⟨hh,h5,h6,h7⟩:=kZ h2;obtain⟨mm,h8,h9,h10⟩:=kZ h5;obtain⟨h11,h12⟩:=aX h8;obtain⟨h13,h14⟩:=aX h12;obtain⟨h15,h16⟩:=aX h14;have e1:=cU h11;have e2:=cU h13;have e3:=cU h15;subst e1 e2 e3;refine⟨_,_,fD.bN hnd λm w ac ho=>?_,h16⟩;have v:=ho x mem x' hx;rw[hb]at v;simp only[VR]at v;have hsb:=gZ (P:=P) (isS:=true) (len:=0) (cap:=0) (l:=0) (h:=0) (mm:=0) (w:=w) (iH (m:=m) (ac:=ac) hlo λy hy=>ho y (mlo y hy)) (iH (m:=m) (ac:=ac) hhi λy hy=>ho y (mhi y hy)) (iH (m:=m) (ac:=ac) hmx λy hy=>ho y (mmx y hy)) h3 h6 h9 h4 h7 h10 hno (YC _) (YC _) (YC _);refine⟨.slice none 0 0,?_,by simp only[VR]⟩;simp only[execOp,hop,v,Instr.sliceAt,Sem.run_bind,run_underlying hu,Result.andThen_ok,Instr.slice,hsb,cY hs,Sem.run_pure];rfl
  .exact(aw h).elim
 .rename_i n el hu;split at h
  .rename_i s hs;have hfin:acm n s x' lo' hi' mx' id ph e H k=1/\(hi'=none->mx'=none):=by
    split at h;.exact(aw h).elim
    .rename_i hno;exact⟨h,λh1=>by cases mx' with|none=>rfl|some a=>exact(hno a h1 rfl).elim⟩
   obtain⟨h',hno⟩:=hfin;unfold acm at h';rw[aq]at h';obtain⟨b,off,hb,h1⟩:=gu h';obtain⟨mm,h2,h3,h4⟩:=kZ h1;obtain⟨hh,h5,h6,h7⟩:=kZ h2;obtain⟨ll,h8,h9,h10⟩:=kZ h5;obtain⟨h11,h12⟩:=aX h8;obtain⟨h13,h14⟩:=aX h12;obtain⟨h15,h16⟩:=aX h14;rw[ay]at h16;have hle:=cH h11;have hhm:=cH h13;have nX:=cH h15;have key:∀(cp' off':Nat),k (.slice b off' (hh-ll) cp' 0) H=1->cp'≠0->(∀q,cp'=q+1->mm-ll=q)->(if mm=ll then off else off+ll*s)=off'->Good P nt o e H k:=by
    intro cp' off' hk hne0 g5 g6;refine⟨_,_,fD.bN hnd λm w ac ho=>?_,hk⟩;have v:=ho x mem x' hx;rw[hb]at v;simp only[VR]at v;obtain⟨c,hc,hm⟩:=v;have hsb:=gZ (P:=P) (isS:=false) (len:=n) (cap:=n) (l:=ll) (h:=hh) (mm:=mm) (w:=w) (iH (m:=m) (ac:=ac) hlo λy hy=>ho y (mlo y hy)) (iH (m:=m) (ac:=ac) hhi λy hy=>ho y (mhi y hy)) (iH (m:=m) (ac:=ac) hmx λy hy=>ho y (mmx y hy)) h9 h6 h3 h10 h7 h4 hno hle hhm nX;refine⟨.slice (some ⟨c,if mm=ll then off else off+ll*s,none⟩) (hh-ll) (mm-ll),?_,?_⟩
    .have ha:(if mm=ll then(⟨c,off,none⟩:Addr)else(⟨c,off,none⟩:Addr).add (ll*s))=⟨c,if mm=ll then off else off+ll*s,none⟩:=by split<;>simp[Addr.add_lit]
     simp only[execOp,hop,hc,Instr.sliceAt,Sem.run_bind,run_underlying hu,Result.andThen_ok,Instr.sureAddr,hsb,cY hs,Sem.run_pure,ha]
    .simp only[VR];exact⟨c,mm-ll,_,_,rfl,hm,by omega,⟨g5,λh=>absurd h hne0⟩,YF ⟨g6,rfl⟩⟩
   rcases bS h16 with⟨h17,h18⟩|⟨h17,h18⟩;.have:=cU h17;subst this;exact key 1 off h18 (by omega) (λq hq=>by omega) (by rw[if_pos rfl])
   .rw[ay,ay]at h18;rw[fL]at h17;have hne:mm≠ll:=by simpa using h17
    exact key _ _ h18 (by omega) (λq hq=>by injection hq) (by rw[if_neg hne];rfl)
  .exact(aw h).elim
 .exact(aw h).elim
theorem PF{t}(hop:o.op=.makeMap t none)(h:aQ (ai P nt o) id ph e H k=1):Good P nt o e H k:=by
 simp only[ai,hop]at h;have hnd:∀c,o.op≠.defer c:=by simp_all
 have h':(cN H (.map []) λb H=>k (.map b) H)=1:=h;obtain⟨H',h1,h2⟩:=dP h';refine⟨_,_,fD.of_run hnd λbase w0 rho w a hp ho=>?_,h1⟩;obtain⟨p1,p2⟩:=hp.alloc (w':=w.alloc (.map #[] 0)) h2.n h2.bD h2.get h2.xf trivial ⟨rfl,rfl,rfl⟩ (by simp) (World.alloc_heap_new w _) (λj hj=>Below.heap_alloc _ _ _ hj) ⟨#[],0,[],rfl,List.Perm.refl _,⟨QP,λx h=>by simp⟩,⟨QP,λx h=>by cases h⟩,by rfl,by rfl⟩;exact⟨.map (some w.heap.size),w.alloc (.map #[] 0),by simp[execOp,hop,Instr.makeMap],_,by exact⟨_,rfl,by rw[h2.n];omega,λ_=>by simp⟩,p1,p2⟩
def IV(ks:Bool)(d:TypeDesc):Prop:=(ks=false/\∃k,d=.int k)\/(ks=true/\d=.string)
theorem Dq{t}{ks}(h:OQ P t=some ks):∃d,P.underlying t=some d/\IV ks d:=by
 unfold OQ at h;split at h;.rename_i q hu;cases h;exact⟨_,hu,YF ⟨rfl,q,rfl⟩⟩
 .rename_i hu;cases h;exact⟨_,hu,YD ⟨rfl,rfl⟩⟩
 simp_all
def AX(ks:Bool)(x y:V):Prop:=(ks=false/\∃k a b,x=.int k a/\y=.int k b)\/(ks=true/\∃l a m b,x=.str l a/\y=.str m b)
theorem AX.kd{ks:Bool}{x y:V}(h:AX ks x y):Kd x y:=h.imp (λh=>h.2) (λh=>h.2)
theorem AX.trans{ks:Bool}{x y z:V}(h:AX ks x y)(k:Kd y z):AX ks x z:=by
 rcases h with⟨h,q,a,b,rfl,rfl⟩|⟨h,l,a,m,b,rfl,rfl⟩<;>rcases k with⟨q',a',b',e,rfl⟩|⟨l',a',m',b',e,rfl⟩<;>cases e;.exact YF ⟨h,_,_,_,rfl,rfl⟩
 .exact YD ⟨h,_,_,_,_,rfl,rfl⟩
theorem Kd.symm{x y:V}(h:Kd x y):Kd y x:=by
 rcases h with⟨q,a,b,rfl,rfl⟩|⟨l,a,m,b,rfl,rfl⟩;.exact YF ⟨_,_,_,rfl,rfl⟩
 .exact YD ⟨_,_,_,_,rfl,rfl⟩
theorem yI{ks}{x y}{f}(h:Mo id ks x y f=1):∃b,f b=1/\(b=true->x=y)/\(b=false->x≠y)/\AX ks x y:=by
 cases x<;>first|exact(aw h).elim|skip
 .rename_i k1 a;have h':cI id y (λk2 b=>aH ks (no _) (aH (YR k1 k2) (f (YR a b)) (no _)))=1:=h;obtain⟨k2,b,rfl,h1⟩:=dL h';rcases bS h1 with⟨_,h2⟩|⟨hks,h2⟩;.exact(aw h2).elim
  obtain⟨h3,h4⟩:=aX h2;have:=cU h3;subst this;refine⟨_,h4,λhb=>by simp_all,λhb e=>?_,YF ⟨hks,_,_,_,rfl,rfl⟩⟩;simp_all
 .rename_i l1 a;have h':er id y (λl2 b=>aH ks (aH (YR l1 l2) (f (YR a b)) (f false)) (no _))=1:=h;obtain⟨l2,b,rfl,h1⟩:=eJ h';obtain⟨hks,h2⟩:=aX h1;have hf:f (decide (l1=l2)&&decide (a=b))=1:=by
   rcases bS h2 with⟨h3,h4⟩|⟨h3,h4⟩;.rw[fL]at h3 h4;simp_all
   .rw[fL]at h3;simp_all
  refine⟨_,hf,λhb=>by simp_all,λhb e=>?_,YD ⟨hks,_,_,_,_,rfl,rfl⟩⟩;simp_all
theorem GN{ks}{x y}(hk:AX ks x y){m}{cx cy}{d}(vx:VR m x cx)(vy:VR m y cy)(hd:IV ks d):(x=y->Instr.sameNow d cx cy=some true/\Instr.sameBits 10000 cy cx=true)/\(x≠y->Instr.sameNow d cx cy=some false):=by
 rcases hk with⟨rfl,q,a,b,rfl,rfl⟩|⟨rfl,l1,a,l2,b,rfl,rfl⟩
 .rw[vx.1,vy.1];rcases hd with⟨_,q2,rfl⟩|⟨h,_⟩
  .refine⟨λe=>?_,λe=>?_⟩;.cases e;refine⟨by simp[Instr.sameNow],?_⟩;simp[Instr.sameBits]
   .have hab:a≠b:=λh=>e (by rw[h]);have:=λh=>hab (toI_inj _ vx.2.1 vy.2.1 h);simp only[Instr.sameNow,if_true];simp_all
  simp_all
 .rw[vx.1,vy.1];rcases hd with⟨h,_⟩|⟨_,rfl⟩;.cases h
  .refine⟨λe=>?_,λe=>?_⟩
   .cases e;have hs:((⟨(aF l1 a).toArray⟩:ByteArray)==⟨(aF l1 a).toArray⟩)=true:=by rw[beq_toListBytes];simp
    refine⟨by simp only[Instr.sameNow,hs],?_⟩;simp only[Instr.sameBits];omega
   .have:((⟨(aF l1 a).toArray⟩:ByteArray)==⟨(aF l2 b).toArray⟩)=false:=by rw[beq_toListBytes,ByteArray.toList_eq,ByteArray.toList_eq,beq_eq_false_iff_ne];intro h;have hl:=congrArg List.length h;simp[aL]at hl;subst hl;exact e (by rw[sk vx.2 vy.2 (by omega)])
    simp only[Instr.sameNow,this]
def ec(m:M)(es:List (V×V))(ents:List MapEntry):Prop:=cA m (es.map (·.1)) (ents.map (·.key))/\cA m (es.map (·.2)) (ents.map (·.val))
theorem ec.cons{m:M}{p:V×V}{es:List (V×V)}{ents:List MapEntry}(h:ec m (p::es) ents):∃en r,ents=en::r/\VR m p.1 en.key/\VR m p.2 en.val/\ec m es r:=by obtain⟨h1,h2⟩:=h;simp only[YP,cA]at h1 h2;obtain⟨c,r,h3,h4,h5⟩:=h1;obtain⟨c',r',h6,h7,h8⟩:=h2;cases ents with|nil=>cases h3|cons en r0=>simp only[YP,List.cons.injEq]at h3 h6;obtain⟨rfl,rfl⟩:=h3;obtain⟨rfl,rfl⟩:=h6;exact⟨en,r0,rfl,h4,h7,h5,h8⟩
theorem ec.mk{m:M}{p:V×V}{es:List (V×V)}{en:MapEntry}{r:List MapEntry}(h1:VR m p.1 en.key)(h2:VR m p.2 en.val)(h:ec m es r):ec m (p::es) (en::r):=by
 refine⟨?_,?_⟩<;>simp only[YP,cA];.exact⟨_,_,rfl,h1,h.1⟩
 .exact⟨_,_,rfl,h2,h.2⟩
theorem ec.nil{m:M}{ents:List MapEntry}(h:ec m [] ents):ents=[]:=by have:=h.1;simp only[YZ,cA]at this;simpa using this
theorem ec.get{m:M}:∀{es:List (V×V)}{ents:List MapEntry},ec m es ents->∀{i:Nat}{p:V×V},es[i]?=some p->∃en,ents[i]?=some en/\VR m p.1 en.key/\VR m p.2 en.val|[],_,_,i,p,hi=>by simp at hi|q::es,ents,h,i,p,hi=>by obtain⟨en,r,rfl,e1,e2,e3⟩:=h.cons;cases i with|zero=>simp at hi;subst hi;exact⟨en,rfl,e1,e2⟩|succ i=>simp only[QI]at hi⊢;exact ec.get e3 hi
theorem ec.length{m:M}{es:List (V×V)}{ents:List MapEntry}(h:ec m es ents):ents.length=es.length:=by simpa using h.1.length
theorem ec.set{m:M}{p:V×V}{en:MapEntry}(h1:VR m p.1 en.key)(h2:VR m p.2 en.val):∀{es:List (V×V)}{ents:List MapEntry}{i:Nat},ec m es ents->ec m (es.set i p) (ents.set i en)|[],_,_,h=>by rw[h.nil];exact⟨by simp only[List.set_nil,YZ,cA],by simp only[List.set_nil,YZ,cA]⟩|q::es,ents,i,h=>by obtain⟨e,r,rfl,e1,e2,e3⟩:=h.cons;cases i with|zero=>exact ec.mk h1 h2 e3|succ i=>exact ec.mk e1 e2 (ec.set h1 h2 e3)
theorem ec.erase{m:M}:∀{es:List (V×V)}{ents:List MapEntry}{i:Nat},ec m es ents->ec m (es.eraseIdx i) (ents.eraseIdx i)|[],_,_,h=>by rw[h.nil];exact⟨by simp only[YQ3,YZ,cA],by simp only[YQ3,YZ,cA]⟩|q::es,ents,i,h=>by obtain⟨e,r,rfl,e1,e2,e3⟩:=h.cons;cases i with|zero=>exact e3|succ i=>exact ec.mk e1 e2 (ec.erase e3)
theorem ec.snoc{m:M}{p:V×V}{en:MapEntry}(h1:VR m p.1 en.key)(h2:VR m p.2 en.val):∀{es:List (V×V)}{ents:List MapEntry},ec m es ents->ec m (es++[p]) (ents++[en])|[],_,h=>by rw[h.nil];exact ec.mk h1 h2 ⟨by simp only[YZ,cA],by simp only[YZ,cA]⟩|q::es,ents,h=>by obtain⟨e,r,rfl,e1,e2,e3⟩:=h.cons;exact ec.mk e1 e2 (ec.snoc h1 h2 e3)
theorem pQ{ks}{x v}{m}{cx}{d}(vx:VR m x cx)(hd:IV ks d):∀{es}{ents}(j),(x,v)∈es->(es.map (·.1)).Nodup->(∀p∈es,AX ks x p.1)->ec m es ents->∃i cv en,Instr.findNow d cx ents j=some (some (j+i,cv))/\VR m v cv/\es[i]?=some (x,v)/\ents[i]?=some en/\Instr.sameBits 10000 en.key cx=true
 |[],_,_,h,_,_,_=>by cases h|(a,u)::es,ents,j,h,hn,hk,he=>by
  obtain⟨en,r,rfl,e1,e2,e3⟩:=he.cons;obtain⟨g1,g2⟩:=GN (hk _ (YM ..)) vx e1 hd;rw[YP,WI]at hn;rcases YN.1 h with h|h;.cases h;obtain⟨g3,g4⟩:=g1 rfl;exact⟨0,en.val,en,by simp only[Instr.findNow,g3,Nat.add_zero],e2,rfl,rfl,g4⟩
  .have hne:=λe=>hn.1 (YW.2 ⟨(x,v),h,e⟩);obtain⟨i,cv,en',g3,g4,g5,g6,g7⟩:=pQ vx hd (j+1) h hn.2 (λp hp=>hk p (YI _ hp)) e3;exact⟨i+1,cv,en',by simp only[Instr.findNow,g2 hne,g3];rw[show j+1+i=j+(i+1)by omega],g4,by simp_all,by simp_all,g7⟩
theorem nj{ks}{x}{m}{cx}{d}(vx:VR m x cx)(hd:IV ks d):∀{es}{ents}(j),(∀p∈es,p.1≠x)->(∀p∈es,AX ks x p.1)->ec m es ents->Instr.findNow d cx ents j=some none|[],_,_,_,_,he=>by rw[he.nil];rfl|(a,u)::es,ents,j,h,hk,he=>by obtain⟨en,r,rfl,e1,e2,e3⟩:=he.cons;obtain⟨_,g2⟩:=GN (hk _ (YM ..)) vx e1 hd;have hne:x≠a:=λe=>h _ (YM ..) e.symm;simp only[Instr.findNow,g2 hne,nj vx hd (j+1) (λp hp=>h p (YI _ hp)) (λp hp=>hk p (YI _ hp)) e3]
theorem cT.tail{a:V}{l:List V}(h:cT (a::l)):cT l:=⟨(WI.1 h.1).2,λx hx y hy=>h.2 x (YI _ hx) y (YI _ hy)⟩
theorem cT.perm{l m:List V}(h:cT l)(hp:l.Perm m):cT m:=⟨hp.nodup_iff.1 h.1,λx hx y hy=>h.2 x (hp.mem_iff.2 hx) y (hp.mem_iff.2 hy)⟩
theorem yH{ks}{x}{es:List (V×V)}(h:es=[]\/∃p∈es,AX ks x p.1)(ho:cT (es.map (·.1))):∀p∈es,AX ks x p.1:=λp hp=>by
 rcases h with rfl|⟨q,hq,h⟩;.cases hp
 .exact h.trans (ho.2 q.1 (YW.2 ⟨q,hq,rfl⟩) p.1 (YW.2 ⟨p,hp,rfl⟩))
theorem GX{ks}{x}{f}{z}:∀{es},vV id ks es x f z=1->(es=[]\/∃p∈es,AX ks x p.1)/\((∃v,f v=1/\(x,v)∈es)\/(z=1/\∀p∈es,p.1≠x))
 |[],h=>⟨YF rfl,YD ⟨h,λp h=>by cases h⟩⟩|(a,v)::es,h=>by
  have h':=h;obtain⟨b,h1,h2,h3,h4⟩:=yI h';refine⟨YD ⟨_,YM ..,h4⟩,?_⟩;rcases bS h1 with⟨rfl,h5⟩|⟨rfl,h5⟩;.exact YF ⟨v,h5,by simp_all⟩
  .rcases(GX h5).2with⟨v',h6,h7⟩|⟨h6,h7⟩;.exact YF ⟨v',h6,YI _ h7⟩
   .exact YD ⟨h6,λp hp=>(YN.1 hp).elim (λe=>e▸(h3 rfl).symm) (h7 p)⟩
theorem run_checkKey{b}{t}{d}{ks}{c}{w}(hu:P.underlying t=some d)(hd:IV ks d):(Instr.checkKey b 10000 t c).run P w=.ok () w:=by show(Instr.checkKey b (9999+1) t c).run P w=_;generalize 9999=dd;rcases hd with⟨_,q,rfl⟩|⟨_,rfl⟩<;>simp only[Instr.checkKey,Sem.run_bind,run_underlying hu,Result.andThen_ok,Sem.run_pure]
theorem run_findKey{t}{d}{c}{ents}{r}{w}(hu:P.underlying t=some d)(h:Instr.findNow d c ents 0=some r):(Instr.findKey t c ents).run P w=.ok r w:=by simp[Instr.findKey,run_underlying hu,h]
theorem PR.sd{base:Nat}{w0 w:World}{rho:Nat->Option Nat}(hp:PR P base w0 rho H w){b c:Nat}{es:List (V×V)}(hb:H.get b=.map es)(hm:(mu rho H w).b b c):rho b=some c/\∃ents clock es',w.heap[c]?=some (.map ents clock)/\es'.Perm es/\cT (es.map (·.1))/\ec (mu rho H w) es' ents.toList/\ft ents clock:=by have hr:rho b=some c:=hm.2 (by rw[hb];trivial);obtain⟨o,h1,h2⟩:=hp.cQ b c hr;rw[hb]at h2;obtain⟨ents,clock,es',rfl,h5,h6,h7,h3,h4⟩:=h2;exact⟨hr,ents,clock,es',h1,h5,h6,⟨h3,h4⟩,h7⟩
theorem keys_perm{es es':List (V×V)}(h:es'.Perm es)(ho:cT (es.map (·.1))):cT (es'.map (·.1)):=ho.perm (h.symm.map _)
theorem fv{c}{ob}{w}(h:w.heap[c]?=some ob)(hn:∀a b d,ob≠.cells a b d):(getObj c).run P w=.ok ob w:=by unfold getObj;unfold Sem.run;simp_all
theorem jn{c}{ob o'}{w}(h:w.heap[c]?=some ob)(hn:∀a b d,ob≠.cells a b d):(setObj c o').run P w=.ok () {w with heap:=w.heap.setIfInBounds c o'}:=by unfold setObj;unfold Sem.run;simp_all
theorem V9{t}{z}(h:zeroV P t=some z):∃i zv,P.info? t=some i/\i.zero=some zv/\∀m,VR m z zv:=by
 unfold zeroV at h;split at h
 .rename_i i hi;split at h;.rename_i zv hz;exact⟨i,zv,hi,hz,λm=>um h⟩
  simp_all
 simp_all
theorem Vb{t:TypeId}{mm x:Operand}{ok:Bool}(hop:o.op=.lookup t mm x ok)(h:aQ (ai P nt o) id ph e H k=1):Good P nt o e H k:=by
 simp only[ai,hop]at h;have mem:mm∈o.op.operands/\x∈o.op.operands:=by simp[hop,Op.operands]
 have hnd:∀c,o.op≠.defer c:=by simp[hop]
 split at h
 .rename_i m' x' kt el hm hx hu;split at h
  .rename_i z ks hz hks;obtain⟨d,hd1,hd2⟩:=Dq hks;obtain⟨i,zv,hi,hzv,hzr⟩:=V9 hz;have h':TG ks z ok m' x' id ph e H k=1:=h;unfold TG at h';rw[aq,aq]at h';have hzrun:∀w:World,(zeroValue el).run P w=.ok zv w:=λw=>by simp[zeroValue,typeInfo,hi,hzv]
   have fin0:aH ok (k (.cG [z,.bool false]) H) (k z H)=1->(∀(m:M)(w:World)(ac:Act),OR m nt e ac o->(execOp ac.eval o).run P w=.ok (.value (if ok then .tuple #[zv,.bool false]else zv)) w)->Good P nt o e H k:=by
    intro hk hrun;rcases bS hk with⟨rfl,h1⟩|⟨rfl,h1⟩;.exact⟨_,_,fD.bN hnd λm w ac ho=>⟨_,hrun m w ac ho,by simp only[if_true,VR];exact⟨_,rfl,by simp only[cA];exact⟨_,_,rfl,hzr m,_,_,rfl,by simp only[VR],rfl⟩⟩⟩,h1⟩
    .exact⟨_,_,fD.bN hnd λm w ac ho=>⟨_,hrun m w ac ho,by simpa using hzr m⟩,h1⟩
   rcases IC h' with⟨b,hb,h1⟩|⟨hb,h1⟩
   .rw[aU]at h1;obtain⟨es,hes,h2⟩:=qC h1;obtain⟨hkd,h2⟩:=GX h2;rcases h2 with⟨v,h3,h4⟩|⟨h3,h4⟩
    .have hrun:∀(base:Nat)(w0:World)(rho:Nat->Option Nat)(w:World)(a:Act),PR P base w0 rho H w->OR (mu rho H w) nt e a o->∃cv,VR (mu rho H w) v cv/\(execOp a.eval o).run P w=.ok (.value (if ok then .tuple #[cv,.bool true]else cv)) w:=by intro base w0 rho w a hp ho;have vm:=ho mm mem.1 m' hm;rw[hb]at vm;simp only[VR]at vm;obtain⟨c,hc,hmu⟩:=vm;obtain⟨_,ents,clock,es',g1,gp,go,g2,_⟩:=hp.sd hes hmu;have hka:=yH hkd go;obtain⟨i',cv,en,g3,g4,_⟩:=pQ (ho x mem.2 x' hx) hd2 0 (gp.mem_iff.2 h4) (keys_perm gp go).1 (λp hp=>hka p (gp.mem_iff.1 hp)) g2;refine⟨cv,g4,?_⟩;simp only[execOp,hop,hc,Instr.lookup,Sem.run_bind,run_underlying hu,Result.andThen_ok,fv g1 (by simp),Sem.run_pure,run_checkKey hd1 hd2,run_findKey hd1 g3]
     rcases bS h3 with⟨rfl,h5⟩|⟨rfl,h5⟩;.refine⟨_,_,fD.of_run hnd λbase w0 rho w a hp ho=>?_,h5⟩;obtain⟨cv,g1,g2⟩:=hrun base w0 rho w a hp ho;exact⟨_,w,g2,rho,by simp only[if_true,VR];exact⟨_,rfl,by simp only[cA];exact⟨_,_,rfl,g1,_,_,rfl,by simp only[VR],rfl⟩⟩,hp,Ext.refl hp.lt⟩
     .refine⟨_,_,fD.of_run hnd λbase w0 rho w a hp ho=>?_,h5⟩;obtain⟨cv,g1,g2⟩:=hrun base w0 rho w a hp ho;exact⟨_,w,g2,rho,by simpa using g1,hp,Ext.refl hp.lt⟩
    .have hrun:∀(base:Nat)(w0:World)(rho:Nat->Option Nat)(w:World)(a:Act),PR P base w0 rho H w->OR (mu rho H w) nt e a o->(execOp a.eval o).run P w=.ok (.value (if ok then .tuple #[zv,.bool false]else zv)) w:=by intro base w0 rho w a hp ho;have vm:=ho mm mem.1 m' hm;rw[hb]at vm;simp only[VR]at vm;obtain⟨c,hc,hmu⟩:=vm;obtain⟨_,ents,clock,es',g1,gp,go,g2,_⟩:=hp.sd hes hmu;have hka:=yH hkd go;have g3:=nj (ho x mem.2 x' hx) hd2 0 (λp hp=>h4 p (gp.mem_iff.1 hp)) (λp hp=>hka p (gp.mem_iff.1 hp)) g2;simp only[execOp,hop,hc,Instr.lookup,Sem.run_bind,run_underlying hu,Result.andThen_ok,fv g1 (by simp),Sem.run_pure,run_checkKey hd1 hd2,run_findKey hd1 g3,hzrun]
     rcases bS h3 with⟨rfl,h5⟩|⟨rfl,h5⟩;.exact⟨_,_,fD.of_run hnd λbase w0 rho w a hp ho=>⟨_,w,hrun base w0 rho w a hp ho,rho,by simp only[if_true,VR];exact⟨_,rfl,by simp only[cA];exact⟨_,_,rfl,hzr _,_,_,rfl,by simp only[VR],rfl⟩⟩,hp,Ext.refl hp.lt⟩,h5⟩
     .exact⟨_,_,fD.of_run hnd λbase w0 rho w a hp ho=>⟨_,w,hrun base w0 rho w a hp ho,rho,by simpa using hzr _,hp,Ext.refl hp.lt⟩,h5⟩
   .refine fin0 h1 λm w ac ho=>?_;have vm:=ho mm mem.1 m' hm;rw[hb]at vm;simp only[VR]at vm;simp only[execOp,hop,vm,Instr.lookup,Sem.run_bind,run_underlying hu,Result.andThen_ok,Sem.run_pure,run_checkKey hd1 hd2,run_findKey hd1 (show Instr.findNow d (ac.eval x) (#[]:Array MapEntry).toList 0=some none from rfl),hzrun]
  .exact(aw h).elim
 .exact(aw h).elim
theorem D6{ks}{x y}:∀{es}{f},zN id ks es x y f=1->∃es2,f es2=1/\(es=[]\/∃p∈es,AX ks x p.1)/\((∃v rest,es.Perm ((x,v)::rest)/\es2.Perm ((x,y)::rest))\/((∀p∈es,p.1≠x)/\es2.Perm ((x,y)::es)))
 |[],f,h=>⟨_,h,YF rfl,YD ⟨λp h=>(by cases h),List.Perm.refl _⟩⟩|(a,v)::es,f,h=>by
  have h':=h;obtain⟨b,h1,h2,h3,h4⟩:=yI h';rcases bS h1 with⟨rfl,h5⟩|⟨rfl,h5⟩;.obtain rfl:=h2 rfl;exact⟨_,h5,YD ⟨_,YM ..,h4⟩,YF ⟨v,es,List.Perm.refl _,List.Perm.refl _⟩⟩
  .obtain⟨es2,h6,_,h7⟩:=D6 h5;refine⟨_,h6,YD ⟨_,YM ..,h4⟩,?_⟩;rcases h7 with⟨u,rest,h8,h9⟩|⟨h8,h9⟩;.exact YF ⟨u,(a,v)::rest,(h8.cons _).trans (List.Perm.swap ..),(h9.cons _).trans (List.Perm.swap ..)⟩
   .exact YD ⟨λp hp=>(YN.1 hp).elim (λe=>e▸(h3 rfl).symm) (h8 p),(h9.cons _).trans (List.Perm.swap ..)⟩
theorem L8{ks}{x}:∀{es}{f},Oi id ks es x f=1->∃es2,f es2=1/\(es=[]\/∃p∈es,AX ks x p.1)/\((∃v,es.Perm ((x,v)::es2))\/((∀p∈es,p.1≠x)/\es2=es))
 |[],f,h=>⟨_,h,YF rfl,YD ⟨λp h=>(by cases h),rfl⟩⟩|(a,v)::es,f,h=>by
  have h':=h;obtain⟨b,h1,h2,h3,h4⟩:=yI h';rcases bS h1 with⟨rfl,h5⟩|⟨rfl,h5⟩;.obtain rfl:=h2 rfl;exact⟨_,h5,YD ⟨_,YM ..,h4⟩,YF ⟨v,List.Perm.refl _⟩⟩
  .obtain⟨es2,h6,_,h7⟩:=L8 h5;refine⟨_,h6,YD ⟨_,YM ..,h4⟩,?_⟩;rcases h7 with⟨u,h8⟩|⟨h8,rfl⟩;.exact YF ⟨u,(h8.cons _).trans (List.Perm.swap ..)⟩
   .exact YD ⟨λp hp=>(YN.1 hp).elim (λe=>e▸(h3 rfl).symm) (h8 p),rfl⟩
theorem lE{α:Type}:∀{l:List α}{i}{a},l[i]?=some a->l.Perm (a::l.eraseIdx i)|[],i,a,h=>by simp_all|x::l,0,a,h=>by simp_all|x::l,i+1,a,h=>((lE (by simp_all)).cons x).trans (List.Perm.swap ..)
theorem Hz{α:Type}{l:List α}{i}{a b}(h:l[i]?=some a):(l.set i b).Perm (b::l.eraseIdx i):=by
 obtain⟨hlt,_⟩:=YQ.1 h;have h1:(l.set i b)[i]?=some b:=by simp_all
 have:=lE h1;rwa[List.eraseIdx_set_eq]at this
theorem uH{x v y}{es es2 rest:List (V×V)}(h1:es.Perm ((x,v)::rest))(h2:es2.Perm ((x,y)::rest))(ho:cT (es.map (·.1))):cT (es2.map (·.1)):=by have h3:(es.map (·.1)).Perm (x::rest.map (·.1)):=h1.map _;have h4:(es2.map (·.1)).Perm (x::rest.map (·.1)):=h2.map _;exact ho.perm (h3.trans h4.symm)
theorem yJ{ks}{x y}{es es2:List (V×V)}(h1:∀p∈es,p.1≠x)(h2:es2.Perm ((x,y)::es))(hx:Kd x x)(hk:∀p∈es,AX ks x p.1)(ho:cT (es.map (·.1))):cT (es2.map (·.1)):=by
 have h4:(es2.map (·.1)).Perm (x::es.map (·.1)):=h2.map _;refine cT.perm ⟨WI.2 ⟨λh=>?_,ho.1⟩,λa ha b hb=>?_⟩ h4.symm;.obtain⟨p,hp,e⟩:=YW.1 h;exact h1 p hp e
 .have hxb:∀c,c∈es.map (·.1)->Kd x c:=λc hc=>by obtain⟨p,hp,rfl⟩:=YW.1 hc;exact(hk p hp).kd
  rcases YN.1 ha with ea|ha<;>rcases YN.1 hb with eb|hb;.simp_all
  .rw[ea];exact hxb _ hb
  .rw[eb];exact(hxb _ ha).symm
  .exact ho.2 a ha b hb
theorem zR{ents ents2}{clock i}{en}{k v}(hen:ents[i]?=some en)(h:ft ents clock)(h2:ents2.toList=ents.toList.set i {en with key:=k,val:=v}):ft ents2 clock:=by
 have hm:(ents.toList.set i {en with key:=k,val:=v}).map (·.born)=ents.toList.map (·.born):=by
  refine Qa λj=>?_;have hen':ents.toList[i]?=some en:=by simp_all
  by_cases hij:i=j;.have hlt:=(YQ.1 hen').1;simp_all
  simp_all
 refine⟨by rw[h2,hm];exact h.1,λq hq=>?_⟩;have:q.born∈ents.toList.map (·.born):=by rw[<-hm,<-h2];exact YW.2 ⟨q,hq,rfl⟩
 obtain⟨q',hq',e⟩:=YW.1 this;rw[<-e];exact h.2 q' hq'
theorem wq{ents}{clock}{k v}(h:ft ents clock):ft (ents.push {key:=k,val:=v,born:=clock}) (clock+1):=by
 unfold ft;rw[YI4];refine⟨?_,λq hq=>?_⟩;.rw[Yz,List.nodup_append];refine⟨h.1,by simp,λa ha b hb e=>?_⟩;obtain⟨q,hq,rfl⟩:=YW.1 ha;have:=h.2 q hq;simp_all
 .rcases Yl.1 hq with hq|hq;.have:=h.2 q hq;omega
  simp_all
theorem Eb{ents ents2}{clock i}(h:ft ents clock)(h2:ents2.toList=ents.toList.eraseIdx i):ft ents2 clock:=by have hs:(ents.toList.eraseIdx i).Sublist ents.toList:=List.eraseIdx_sublist ..;exact⟨by rw[h2];exact(hs.map _).nodup h.1,λq hq=>h.2 q (hs.subset (by simp_all))⟩
theorem PR.nw{base:Nat}{w0 w:World}{rho:Nat->Option Nat}{H':Heap}(hp:PR P base w0 rho H w){b c:Nat}{es es2 es':List (V×V)}{ents0 ents:Array MapEntry}{clock0 clock:Nat}(hb:H.get b=.map es)(hr:rho b=some c)(hw:w.heap[c]?=some (.map ents0 clock0))(hS:Lp H b (.map es2) H')(hperm:es'.Perm es2)(hok:cT (es2.map (·.1)))(hst:ft ents clock)(he:ec (mu rho H w) es' ents.toList):PR P base w0 rho H' {w with heap:=w.heap.setIfInBounds c (.map ents clock)}/\Ext rho H w rho H' {w with heap:=w.heap.setIfInBounds c (.map ents clock)}:=by have hlt:c<w.heap.size:=(hp.j8 b c hr).2.2.1;exact hp.write (o:=.map ents clock) hr (by rw[hb];intro e;cases e) hS.n hS.bD hS.wb hS.get hS.xf trivial ⟨rfl,rfl,rfl⟩ (by simp) (by simp[hlt]) (λj hj=>by simp[WV (Ne.symm hj)]) ⟨ents,clock,es',rfl,hperm,hok,hst,he.1,he.2⟩ (λcs e fr h=>by rw[hw]at h;cases h) (λr h=>by rw[hw]at h;cases h)
theorem GG{x}{k}(h:isKey id x k=1):Kd x x/\k=1:=by cases x<;>first|exact(aw h).elim|exact⟨YF ⟨_,_,_,rfl,rfl⟩,h⟩|exact⟨YD ⟨_,_,_,_,rfl,rfl⟩,h⟩
theorem wi{t}{mm x y}(hop:o.op=.mapUpdate t mm x y\/o.op=.insert t mm x y)(h:aQ (ai P nt o) id ph e H k=1):Good P nt o e H k:=by
 have hc:ai P nt o=match aN nt mm,aN nt x,aN nt y,P.underlying t with|some m,some x,some y,some (.map kt _)=>(match OQ P kt with|some ks=>.Ur ks m x y|none=>.bad)|_,_,_,_=>.bad:=by rcases hop with h|h<;>simp only[ai,h]<;>rfl
 rw[hc]at h;have mem:mm∈o.op.operands/\x∈o.op.operands/\y∈o.op.operands:=by rcases hop with h|h<;>simp[h,Op.operands]
 have hnd:∀c,o.op≠.defer c:=by rcases hop with h|h<;>simp[h]
 split at h
 .rename_i m' x' y' kt el hm hx hy hu;split at h
  .rename_i ks hks;obtain⟨d,hd1,hd2⟩:=Dq hks;have h':TK ks m' x' y' id ph e H k=1:=h;unfold TK at h';rw[aq,aq,aq]at h';obtain⟨b,hb,h1⟩:=xm h';rw[aU]at h1;obtain⟨es,hes,h2⟩:=qC h1;obtain⟨hxs,h2⟩:=GG h2;obtain⟨es2,h3,hkd,h4⟩:=D6 h2;obtain⟨H',h5,h6⟩:=gW h3;refine⟨_,_,fD.Dy hnd λbase w0 rho w a hp ho=>?_,h5⟩;have vm:=ho mm mem.1 m' hm;rw[hb]at vm;simp only[VR]at vm;obtain⟨c,hcm,hmu⟩:=vm;obtain⟨hr,ents,clock,es',g1,gp,go,g2,gs⟩:=hp.sd hes hmu;have hka:=yH hkd go;have hka':=λp hp=>hka p (gp.mem_iff.1 hp);have vx:=ho x mem.2.1 x' hx;have vy:=ho y mem.2.2 y' hy;have hex:(execOp a.eval o).run P w=((Instr.mapUpdate t (a.eval mm) (a.eval x) (a.eval y)).run P w).andThen λ_ w'=>.ok .skip w':=by rcases hop with h|h<;>simp only[execOp,h,Sem.run_bind,Sem.run_pure]
   rcases h4 with⟨v,rest,h7,h8⟩|⟨h7,h8⟩
   .obtain⟨i,cv,en,f1,f2,f3,f4,f5⟩:=pQ vx hd2 0 ((gp.trans h7).mem_iff.2 (YM ..)) (keys_perm gp go).1 hka' g2;have hen:ents[i]?=some en:=by simp_all
    have hmod:(ents.modify i λe=>{e with key:=a.eval x,val:=a.eval y}).toList=ents.toList.set i {en with key:=a.eval x,val:=a.eval y}:=by
     refine Qa λk=>?_;by_cases hik:i=k;.have hlt:=(YQ.1 f4).1;simp_all
     simp_all
    obtain⟨p1,p2⟩:=hp.nw hes hr g1 h6 ((Hz f3).trans ((((lE f3).symm.trans (gp.trans h7)).cons_inv.cons _).trans h8.symm)) (uH h7 h8 go) (zR hen gs hmod) (by rw[hmod];exact ec.set vx vy g2);refine⟨_,?_,rho,p1,p2⟩;rw[hex];simp only[hcm,Instr.mapUpdate,Sem.run_bind,run_underlying hu,Result.andThen_ok,fv g1 (by simp),run_checkKey hd1 hd2,run_findKey hd1 f1,WG,hen,Option.map_some,Option.getD_some,Instr.keyThatStays,f5,if_true,Sem.run_pure,jn g1 (by simp)]
   .have f1:=nj vx hd2 0 (λp hp=>h7 p (gp.mem_iff.1 hp)) hka' g2;obtain⟨p1,p2⟩:=hp.nw (ents:=ents.push {key:=a.eval x,val:=a.eval y,born:=clock}) hes hr g1 h6 (List.perm_append_singleton _ _|>.trans ((gp.cons _).trans h8.symm)) (yJ h7 h8 hxs hka go) (wq gs) (by rw[YI4];exact ec.snoc vx vy g2);refine⟨_,?_,rho,p1,p2⟩;rw[hex];simp only[hcm,Instr.mapUpdate,Sem.run_bind,run_underlying hu,Result.andThen_ok,fv g1 (by simp),run_checkKey hd1 hd2,run_findKey hd1 f1,jn g1 (by simp)]
  .exact(aw h).elim
 .exact(aw h).elim
theorem FSp.op{x:V}{args:List V}{v:V}{H':Heap}{f:Operand}{asL:Array Operand}{ts:Array TypeId}(h:FSp P x args H v H')(hop:o.op=.call {callee:=.value f,args:=asL,argTypes:=ts})(hx:∀(m:M)(ac:Act),OR m nt e ac o->VR m x (ac.eval f))(ha:∀(m:M)(ac:Act),OR m nt e ac o->cA m args (asL.map ac.eval).toList):fD P nt o e H v H':=by
 intro rd base w0 rho w a hp ho;refine⟨iY P o a w rd,?_⟩;rw[semAt_eq (by simp[hop])];have hex:execOp a.eval o=(do let d<-Deferred.ofValue (a.eval f) (asL.map a.eval);invoke d.target d.args):=by simp only[execOp,hop];rfl
 rw[hex];exact h rd base w0 rho w (a.eval f) (asL.map a.eval) hp (hx _ _ ho) (ha _ _ ho) o a
theorem KP(hph:jC P ph){f}{asL}{ts}(hop:o.op=.call {callee:=.value (.func f),args:=asL,argTypes:=ts})(h:aQ (ai P nt o) id ph e H k=1):Good P nt o e H k:=by
 simp only[ai,hop]at h;split at h;.rename_i l _ hl hf;have h':Tu (2*f) l id ph e H k=1:=h;unfold Tu at h';rw[iF]at h';obtain⟨v,H',h1,h2⟩:=hph _ _ _ _ h';refine⟨v,H',h1.1.op hop (λm ac ho=>by simp only[Act.eval,VR];exact⟨#[],by simp,by rfl⟩) (λm ac ho=>?_),h2⟩;have:=jI hl λx hx=>ho x (by simp[hop,Op.operands,Call.operands];simp_all);simp_all
 .exact(aw h).elim
theorem PB(hph:jC P ph){t}{asL}{ts}(hop:o.op=.call {callee:=.value (.tmp t),args:=asL,argTypes:=ts})(h:aQ (ai P nt o) id ph e H k=1):Good P nt o e H k:=by
 simp only[ai,hop]at h;split at h;.rename_i x l hx hl;have h':JJ x l id ph e H k=1:=h;unfold JJ at h';rw[aq,iF]at h';obtain⟨v,H',h1,h2⟩:=hph _ _ _ _ h';refine⟨v,H',h1.1.op hop (λm ac ho=>ho _ (by simp[hop,Op.operands,Call.operands]) x hx) (λm ac ho=>?_),h2⟩;have:=jI hl λx hx=>ho x (by simp[hop,Op.operands,Call.operands];simp_all);simp_all
 .exact(aw h).elim
theorem fO{b}{asL}{ts}(hop:o.op=.call {callee:=.builtin b,args:=asL,argTypes:=ts})(r):execOp r o=builtin b ts o.type (asL.map λ|.const _=>true|_=>false) (asL.map r):=by simp only[execOp,hop];rfl
theorem RL{asL}{x}(h:cm nt asL.toList=some [x]):∃y,asL=#[y]/\aN nt y=some x:=by obtain⟨l⟩:=asL;cases l with|nil=>simp[cm]at h|cons y l=>cases l with
  |nil=>
   simp only[cm]at h;split at h;.simp_all
   simp_all|cons z l=>
   simp only[cm]at h;split at h
   .rename_i a r h1 h2;split at h2;.simp_all
    simp_all
   simp_all
theorem EJ{asL}{x y}(h:cm nt asL.toList=some [x,y]):∃p q,asL=#[p,q]/\aN nt p=some x/\aN nt q=some y:=by obtain⟨l⟩:=asL;cases l with|nil=>simp[cm]at h|cons p l=>
  simp only[cm]at h;split at h;.rename_i a r h1 h2;obtain⟨rfl,rfl⟩:=h;obtain⟨q,hq,h3⟩:=RL h2;cases hq;exact⟨p,q,rfl,h1,h3⟩
  simp_all
theorem aec{asL}{x y z}(h:cm nt asL.toList=some [x,y,z]):∃p q r,asL=#[p,q,r]/\aN nt p=some x/\aN nt q=some y/\aN nt r=some z:=by obtain⟨l⟩:=asL;cases l with|nil=>simp[cm]at h|cons p l=>
  simp only[cm]at h;split at h;.rename_i a r h1 h2;obtain⟨rfl,rfl⟩:=h;obtain⟨q,r,hq,h3,h4⟩:=EJ h2;cases hq;exact⟨p,q,r,rfl,h1,h3,h4⟩
  simp_all
theorem toI_64'{n}(h:n<9223372036854775808):toI .i64 n=n:=toI_small _ _ (by simp[half,IntKind.signed,IntKind.bits];omega)
theorem qy{m}{n}(h:n<9223372036854775808):VR m (.int 3 n) (goInt n):=by exact⟨by show Value.int .i64 (n:Int)=Value.int .i64 (toI .i64 n);rw[toI_64' h],by show n<2^64;omega,by omega⟩
theorem Ds:∀es:List (V×V),Dr es=es.length|[]=>rfl|_::es=>congrArg WQ (Ds es)
theorem Ul{x}{f}(h:Uk id x f=1):∃n,f n=1/\∀(m)(c),VR m x c->∀w:World,(Builtin.lenOf c).run P w=.ok n w:=by
 cases x<;>first|exact(aw h).elim|skip
 .exact⟨_,h,λm c v w=>by rw[v.1];simp[Builtin.lenOf,ByteArray.size,aL]⟩
 .exact⟨_,h,λm c v w=>by obtain⟨c1,cap,o',sp,rfl,_⟩:=v;rfl⟩
 .exact⟨_,h,λm c v w=>by rw[v];rfl⟩
theorem qQ{n}(h:lQ id n H k=1):n<9223372036854775808/\k (.int 3 n) H=1:=by obtain⟨h1,h2⟩:=aX h;simp_all
theorem af6{asL:Array Operand}{ts:Array TypeId}(hop:o.op=.call {callee:=.builtin .len,args:=asL,argTypes:=ts})(h:aQ (ai P nt o) id ph e H k=1):Good P nt o e H k:=by
 simp only[ai,hop,dA]at h;have hnd:∀c,o.op≠.defer c:=by simp[hop]
 split at h
 .rename_i x t tr hx hts;obtain⟨y,rfl,hy⟩:=RL hx;have hts':ts[0]?=some t:=by rw[<-Ys,hts];rfl
  have fin:∀n:Nat,n<9223372036854775808->k (.int 3 n) H=1->(∀(base:Nat)(w0:World)(rho:Nat->Option Nat)(w:World)(a:Act),PR P base w0 rho H w->VR (mu rho H w) (aA x e) (a.eval y)->(Builtin.len_ ts o.type #[a.eval y]).run P w=.ok (goInt n) w)->Good P nt o e H k:=by intro n hn hk hr;refine⟨_,_,fD.of_run hnd λbase w0 rho w a hp ho=>?_,hk⟩;have v:=ho y (by simp[hop,Op.operands,Call.operands]) x hy;refine⟨goInt n,w,?_,rho,qy hn,hp,Ext.refl hp.lt⟩;rw[fO hop a.eval];simp[builtin,hr base w0 rho w a hp v]
  split at h
  .rename_i hu;have h':TE x id ph e H k=1:=h;unfold TE at h';rw[aq]at h';obtain⟨l,q,hq,h1⟩:=eJ h';obtain⟨h2,h3⟩:=qQ h1;refine fin l h2 h3 λbase w0 rho w a hp v=>?_;rw[hq]at v;simp only[VR]at v;have hs:(⟨(aF l q).toArray⟩:ByteArray).size=l:=by simp[ByteArray.size,aL]
   simp[Builtin.len_,hts',run_underlying hu,v.1,hs]
  .rename_i el hu;have h':TB x id ph e H k=1:=h;unfold TB at h';rw[aq]at h';rcases fZ h' with⟨b,off,l,cp,sz,hq,h1⟩|⟨hq,h1⟩;.obtain⟨h2,h3⟩:=qQ h1;refine fin l h2 h3 λbase w0 rho w a hp v=>?_;rw[hq]at v;simp only[VR]at v;obtain⟨c1,cap,o',sp,hc,_⟩:=v;simp[Builtin.len_,hts',run_underlying hu,hc]
   .obtain⟨h2,h3⟩:=qQ h1;refine fin 0 h2 h3 λbase w0 rho w a hp v=>?_;rw[hq]at v;simp only[VR]at v;simp[Builtin.len_,hts',run_underlying hu,v]
  .rename_i kt el hu;have h':TC x id ph e H k=1:=h;unfold TC at h';rw[aq]at h';rcases IC h' with⟨b,hq,h1⟩|⟨hq,h1⟩
   .rw[aU]at h1;obtain⟨es,hes,h2⟩:=qC h1;rw[ay,Ds]at h2;obtain⟨h3,h4⟩:=qQ h2;refine fin _ h3 h4 λbase w0 rho w a hp v=>?_;rw[hq]at v;simp only[VR]at v;obtain⟨c,hc,hmu⟩:=v;obtain⟨hr,ents,clock,es',g1,gp,go,g2,_⟩:=hp.sd hes hmu;have hl:ents.size=es.length:=by have:=g2.1.length;rw[<-gp.length_eq];simpa using this
    simp[Builtin.len_,hts',run_underlying hu,hc,fv g1,hl]
   .obtain⟨h2,h3⟩:=qQ h1;refine fin 0 h2 h3 λbase w0 rho w a hp v=>?_;rw[hq]at v;simp only[VR]at v;simp[Builtin.len_,hts',run_underlying hu,v]
  .exact(aw h).elim
 .exact(aw h).elim
theorem qU{t el}(h:uV P t=some el):P.underlying t=some (.slice el):=by
 unfold uV at h;split at h;.simp_all
 simp_all
theorem af5{asL}{ts}(hop:o.op=.call {callee:=.builtin .cap,args:=asL,argTypes:=ts})(h:aQ (ai P nt o) id ph e H k=1):Good P nt o e H k:=by
 simp only[ai,hop,dA]at h;have hnd:∀c,o.op≠.defer c:=by simp_all
 split at h
 .rename_i x t tr hx hts;obtain⟨y,rfl,hy⟩:=RL hx;have hts':ts[0]?=some t:=by rw[<-Ys,hts];rfl
  split at h
  .rename_i el hel;have hu:=qU hel;have h':acb x id ph e H k=1:=h;unfold acb at h';rw[aq]at h';have fin:∀n,n<9223372036854775808->k (.int 3 n) H=1->(∀(m)(w)(a:Act),VR m (aA x e) (a.eval y)->(Builtin.cap_ ts o.type #[a.eval y]).run P w=.ok (goInt n) w)->Good P nt o e H k:=by intro n hn hk hr;refine⟨_,_,fD.bN hnd λm w a ho=>?_,hk⟩;have v:=ho y (by simp[hop,Op.operands,Call.operands]) x hy;refine⟨goInt n,?_,qy hn⟩;rw[fO hop a.eval];simp[builtin,hr m w a v]
   rcases fZ h' with⟨b,off,l,cp,sz,hq,h1⟩|⟨hq,h1⟩;.cases cp with|zero=>exact(aw h1).elim|succ q=>obtain⟨h2,h3⟩:=aX (show aH (WC q 9223372036854775808) (k (.int 3 q) H) (no _)=1from h1);refine fin q (fu h2) h3 λm w a v=>?_;rw[hq]at v;obtain⟨c1,cap,o',sp,hc,_,_,hcp,_⟩:=v;have:=hcp.1 q rfl;subst this;simp[Builtin.cap_,hts',run_underlying hu,hc]
   .refine fin 0 (by omega) h1 λm w a v=>?_;rw[hq]at v;simp only[VR]at v;simp[Builtin.cap_,hts',run_underlying hu,v]
  .exact(aw h).elim
 .exact(aw h).elim
theorem ack{kd oo mo}{mx}{x y}(h:eMm kd oo mo mx x y id ph e H k=1):∃a b,aA x e=.int kd a/\aA y e=.int kd b/\k (.int kd (if mx then(if(a+oo)%mo<=(b+oo)%mo then b else a)else(if(a+oo)%mo<=(b+oo)%mo then a else b))) H=1:=by
 unfold eMm at h;rw[aq]at h;obtain⟨k1,a,ha,h1⟩:=dL h;rw[aq]at h1;obtain⟨k2,b,hb,h2⟩:=dL h1;obtain⟨h3,h4⟩:=aX h2;obtain⟨h5,h6⟩:=aX h4;have e1:=cU h3;have e2:=cU h5;subst e1 e2;refine⟨a,b,ha,hb,?_⟩;rcases bS h6 with⟨h7,h8⟩|⟨h7,h8⟩;.have hle:(a+oo)%mo<=(b+oo)%mo:=cH h7;rcases bS h8 with⟨h9,h10⟩|⟨h9,h10⟩<;>subst h9<;>simpa[hle]using h10
 .have hle:¬(a+oo)%mo<=(b+oo)%mo:=λhle=>by have:Yd ((a.add oo).mod mo) ((b.add oo).mod mo)=true:=WX hle;simp_all
  rcases bS h8 with⟨h9,h10⟩|⟨h9,h10⟩<;>subst h9<;>simpa[hle]using h10
def xb(mx:Bool)(oo mo a b:Nat):Nat:=if mx then(if(a+oo)%mo<=(b+oo)%mo then b else a)else(if(a+oo)%mo<=(b+oo)%mo then a else b)
theorem Ke(mx)(oo mo a b):xb mx oo mo a b=a\/xb mx oo mo a b=b:=by unfold xb;split<;>split<;>simp
theorem zj{oo mo}{mx}{a b}{f}:HA oo mo mx a b f=f (xb mx oo mo a b):=by
 unfold HA xb;have hb:(Yd ((a.add oo).mod mo) ((b.add oo).mod mo)=true)↔(a+oo)%mo<=(b+oo)%mo:=⟨λh=>Nat.le_of_ble_eq_true h,λh=>WX h⟩;by_cases hle:(a+oo)%mo<=(b+oo)%mo
 .rw[hb.2 hle];cases mx;.simp only[YV,if_false,if_pos hle];rfl
  .simp only[if_true,if_pos hle];rfl
 .have:Yd ((a.add oo).mod mo) ((b.add oo).mod mo)=false:=by cases hc:Yd ((a.add oo).mod mo) ((b.add oo).mod mo)with|false=>rfl|true=>exact absurd (hb.1 hc) hle
  rw[this];cases mx;.simp only[YV,if_false,if_neg hle];rfl
  .simp only[if_true,if_neg hle];rfl
theorem MK{kx}{a b}(mx:Bool)(ha:a<fJ kx)(hb:b<fJ kx):(if mx then Builtin.max2 else Builtin.min2) (.int kx (toI kx a)) (.int kx (toI kx b))=pure (.int kx (toI kx (xb mx (eo kx) (2^kx.bits) a b))):=by
 have oa:=toI_off kx a ha;have ob:=toI_off kx b hb;have hcmp:toI kx b>toI kx a↔¬(b+eo kx)%2^kx.bits<=(a+eo kx)%2^kx.bits:=by omega
 have hcmp2:toI kx b<toI kx a↔¬(a+eo kx)%2^kx.bits<=(b+eo kx)%2^kx.bits:=by omega
 have heq:(a+eo kx)%2^kx.bits=(b+eo kx)%2^kx.bits->toI kx a=toI kx b:=λe=>by omega
 cases mx
 .simp only[YV,if_false,Builtin.min2,xb];by_cases hle:(a+eo kx)%2^kx.bits<=(b+eo kx)%2^kx.bits;.rw[if_neg (λhlt=>(hcmp2.1 hlt) hle),if_pos hle]
  .rw[if_pos (hcmp2.2 hle),if_neg hle]
 .simp only[if_true,Builtin.max2,xb];congr 2;by_cases hle:(a+eo kx)%2^kx.bits<=(b+eo kx)%2^kx.bits;.rw[if_pos hle];omega
  .rw[if_neg hle,if_neg (λhlt=>(hcmp.1 hlt) (by omega))]
theorem XR{kd oo mo}{mx}{x y z}(h:XQ kd oo mo mx x y z id ph e H k=1):∃a b c,aA x e=.int kd a/\aA y e=.int kd b/\aA z e=.int kd c/\k (.int kd (xb mx oo mo (xb mx oo mo a b) c)) H=1:=by unfold XQ at h;rw[aq]at h;obtain⟨k1,a,ha,h1⟩:=dL h;rw[aq]at h1;obtain⟨k2,b,hb,h2⟩:=dL h1;rw[aq]at h2;obtain⟨k3,c,hc,h3⟩:=dL h2;obtain⟨g1,g2⟩:=aX h3;obtain⟨g3,g4⟩:=aX g2;obtain⟨g5,g6⟩:=aX g4;rw[zj,zj]at g6;simp_all
theorem af7{mx:Bool}{asL:Array Operand}{ts:Array TypeId}(hop:o.op=.call {callee:=.builtin (if mx then .max else .min),args:=asL,argTypes:=ts})(h:aQ (ai P nt o) id ph e H k=1):Good P nt o e H k:=by
 have hnd:∀c,o.op≠.defer c:=by simp[hop]
 have hc:ai P nt o=match cm nt asL.toList,ts.toList with|some [x,y],t::_=>(match kindOf P t with|some k=>.mm (mq k) (eo k) (2^k.bits) mx x y|none=>.bad)|some [x,y,z],t::_=>(match kindOf P t with|some k=>.mm3 (mq k) (eo k) (2^k.bits) mx x y z|none=>.bad)|_,_=>.bad:=by cases mx<;>simp only[ai,hop,dA,if_true,YV,if_false]<;>rfl
 have r2:∀{kx:IntKind}{a b:Nat},mx=false->a<fJ kx->b<fJ kx->Builtin.min2 (.int kx (toI kx a)) (.int kx (toI kx b))=pure (.int kx (toI kx (xb false (eo kx) (2^kx.bits) a b))):=λ_ ha hb=>MK false ha hb;have r1:∀{kx:IntKind}{a b:Nat},mx=true->a<fJ kx->b<fJ kx->Builtin.max2 (.int kx (toI kx a)) (.int kx (toI kx b))=pure (.int kx (toI kx (xb true (eo kx) (2^kx.bits) a b))):=λ_ ha hb=>MK true ha hb;rw[hc]at h;split at h
 .rename_i x y t tr hx hts;obtain⟨p,q,rfl,hp',hq'⟩:=EJ hx;split at h
  .rename_i kx hkx;have h':eMm (mq kx) (eo kx) (2^kx.bits) mx x y id ph e H k=1:=h;obtain⟨a,b,ha,hb,h1⟩:=ack h';refine⟨_,_,fD.bN hnd λm w ac ho=>?_,h1⟩;have vx:=ho p (by simp[hop,Op.operands,Call.operands]) x hp';have vy:=ho q (by simp[hop,Op.operands,Call.operands]) y hq';rw[ha]at vx;rw[hb]at vy;simp only[VR,dQ]at vx vy;refine⟨.int kx (toI kx (xb mx (eo kx) (2^kx.bits) a b)),?_,?_⟩
   .rw[fO hop ac.eval];cases mx;.simp only[YV,if_false,builtin,Builtin.min_,vx.1,vy.1,YF2,YP,YZ,YF3,YG4,r2 rfl vx.2.1 vy.2.1,Sem.run_bind,Sem.run_pure,Result.andThen_ok]
    .simp only[if_true,builtin,Builtin.max_,vx.1,vy.1,YF2,YP,YZ,YF3,YG4,r1 rfl vx.2.1 vy.2.1,Sem.run_bind,Sem.run_pure,Result.andThen_ok]
   .show VR m (.int (mq kx) (xb mx (eo kx) (2^kx.bits) a b)) _;simp only[VR,dQ];refine⟨trivial,?_,yG kx⟩;rcases Ke mx (eo kx) (2^kx.bits) a b with h|h<;>rw[h];.exact vx.2.1
    .exact vy.2.1
  .exact(aw h).elim
 .rename_i x y z t tr hx hts;obtain⟨p,q,r,rfl,hp',hq',hr'⟩:=aec hx;split at h
  .rename_i kx hkx;have h':XQ (mq kx) (eo kx) (2^kx.bits) mx x y z id ph e H k=1:=h;obtain⟨a,b,c,ha,hb,hc,h1⟩:=XR h';refine⟨_,_,fD.bN hnd λm w ac ho=>?_,h1⟩;have vx:=ho p (by simp[hop,Op.operands,Call.operands]) x hp';have vy:=ho q (by simp[hop,Op.operands,Call.operands]) y hq';have vz:=ho r (by simp[hop,Op.operands,Call.operands]) z hr';rw[ha]at vx;rw[hb]at vy;rw[hc]at vz;simp only[VR,dQ]at vx vy vz;have hm1:xb mx (eo kx) (2^kx.bits) a b<fJ kx:=by
    rcases Ke mx (eo kx) (2^kx.bits) a b with h|h<;>rw[h];.exact vx.2.1
    .exact vy.2.1
   refine⟨.int kx (toI kx (xb mx (eo kx) (2^kx.bits) (xb mx (eo kx) (2^kx.bits) a b) c)),?_,?_⟩
   .rw[fO hop ac.eval];cases mx;.simp only[YV,if_false,builtin,Builtin.min_,vx.1,vy.1,vz.1,YF2,YP,YZ,YF3,YG4,r2 rfl vx.2.1 vy.2.1,r2 rfl hm1 vz.2.1,Sem.run_bind,Sem.run_pure,Result.andThen_ok]
    .simp only[if_true,builtin,Builtin.max_,vx.1,vy.1,vz.1,YF2,YP,YZ,YF3,YG4,r1 rfl vx.2.1 vy.2.1,r1 rfl hm1 vz.2.1,Sem.run_bind,Sem.run_pure,Result.andThen_ok]
   .simp only[VR,dQ];refine⟨trivial,?_,yG kx⟩;rcases Ke mx (eo kx) (2^kx.bits) (xb mx (eo kx) (2^kx.bits) a b) c with h|h<;>rw[h];.exact hm1
    .exact vz.2.1
  .exact(aw h).elim
 .exact(aw h).elim
theorem MQ{m}:VR m (.cG []) (.tuple #[]):=by exact⟨#[],rfl,by rfl⟩
theorem Va{asL}{ts}(hop:o.op=.call {callee:=.builtin .delete,args:=asL,argTypes:=ts})(h:aQ (ai P nt o) id ph e H k=1):Good P nt o e H k:=by
 simp only[ai,hop,dA]at h;have hnd:∀c,o.op≠.defer c:=by simp_all
 split at h
 .rename_i m' x' t tr hx hts;obtain⟨mm,x,rfl,hm,hx⟩:=EJ hx;have hts':ts[0]?=some t:=by rw[<-Ys,hts];rfl
  split at h
  .rename_i kt el hu;split at h
   .rename_i ks hks;obtain⟨d,hd1,hd2⟩:=Dq hks;have h':TH ks m' x' id ph e H k=1:=h;unfold TH at h';rw[aq,aq]at h';obtain⟨b,hb,h1⟩:=xm h';rw[aU]at h1;obtain⟨es,hes,h2⟩:=qC h1;obtain⟨es2,h3,hkd,h4⟩:=L8 h2;obtain⟨H',h5,h6⟩:=gW h3;refine⟨_,_,fD.of_run hnd λbase w0 rho w a hp ho=>?_,h5⟩;have vm:=ho mm (by simp[hop,Op.operands,Call.operands]) m' hm;rw[hb]at vm;obtain⟨c,hcm,hmu⟩:=vm;obtain⟨hr,ents,clock,es',g1,gp,go,g2,gs⟩:=hp.sd hes hmu;have hka:=yH hkd go;have hka':=λp hp=>hka p (gp.mem_iff.1 hp);have vx:=ho x (by simp[hop,Op.operands,Call.operands]) x' hx
    rcases h4 with⟨v,h7⟩|⟨h7,rfl⟩;.obtain⟨i,cv,en,f1,f2,f3,f4,f5⟩:=pQ vx hd2 0 ((gp.trans h7).mem_iff.2 (YM ..)) (keys_perm gp go).1 hka' g2;obtain⟨p1,p2⟩:=hp.nw (ents:=ents.eraseIdxIfInBounds i) hes hr g1 h6 ((lE f3).symm.trans (gp.trans h7)).cons_inv (keys_perm h7.symm go).tail (Eb (i:=i) gs (by simp)) (by
      have hlt:=by simpa using(YQ.1 f4).1
      rw[Array.eraseIdxIfInBounds,dif_pos hlt,Array.toList_eraseIdx];exact ec.erase g2);refine⟨.tuple #[],_,?_,rho,MQ,p1,p2⟩;rw[fO hop a.eval];simp[builtin,Builtin.delete_,hts',run_underlying hu,hcm,fv g1,run_checkKey hd1 hd2,run_findKey hd1 f1,jn g1]
    .have f1:=nj vx hd2 0 (λp hp=>h7 p (gp.mem_iff.1 hp)) hka' g2;obtain⟨p1,p2⟩:=hp.nw hes hr g1 h6 gp go gs g2;refine⟨.tuple #[],_,?_,rho,MQ,p1,p2⟩;rw[fO hop a.eval];simp[builtin,Builtin.delete_,hts',run_underlying hu,hcm,fv g1,run_checkKey hd1 hd2,run_findKey hd1 f1,jn g1]
   .exact(aw h).elim
  .exact(aw h).elim
 .exact(aw h).elim
def me(P:Program)(H:Heap)(size:Nat)(x:V)(n:Nat)(l:List V):Prop:=(∀(m:M)(c:Value),VR m x c->∀w:World,(Builtin.lenOf c).run P w=.ok n w)/\∀{base:Nat}{w0 w:World}{rho:Nat->Option Nat}{c:Value},PR P base w0 rho H w->VR (mu rho H w) x c->l.length=n*size/\∀n',n'<=n->∃cs:List Value,(Builtin.firstCells size n' c).run P w=.ok cs.toArray w/\cA (mu rho H w) (l.take (n'*size)) cs
theorem tJ{m}{c}{w}:(∀b o l cp sz,VR m (.slice b o l cp sz) c->(Builtin.lenOf c).run P w=.ok l w)/\(VR m .aE c->(Builtin.lenOf c).run P w=.ok 0 w)/\(∀l n,VR m (.str l n) c->(Builtin.lenOf c).run P w=.ok l w):=by
 refine⟨λb o l cp sz v=>?_,λv=>?_,λl n v=>?_⟩;.obtain⟨c1,cap,o',sp,rfl,_⟩:=v;rfl
 .rw[v];rfl
 .rw[v.1];simp[Builtin.lenOf,ByteArray.size,aL]
theorem HX{bl}{row}(h:rowOf bl=some row):oU bl=some row:=by cases bl<;>first|exact h|(simp[rowOf]at h)
theorem PR.tU{base:Nat}{w0 w:World}{rho:Nat->Option Nat}(hp:PR P base w0 rho H w){b o' off c n:Nat}{row:List V}(hm:(mu rho H w).b b c)(hrow:oU (H.get b)=some row)(hn:off+n<=row.length)(hv:(∀v∈(row.drop off).take n,v.one=true)\/rowOf (H.get b)=some row){sp:Option _}(ho:o'=off/\sp=none\/n=0):∃cs:List Value,(loadCells ⟨c,o',sp⟩ n).run P w=.ok cs.toArray w/\cA (mu rho H w) ((row.drop off).take n) cs:=by
 rcases ho with⟨rfl,rfl⟩|rfl;.obtain⟨cs,h1,h2,_⟩:=hp.KJ (hp.zE hm hrow) hrow hn hv;exact⟨cs,h1,h2⟩
 .exact⟨[],rfl,by simp only[QF,cA]⟩
theorem PR.qu{base:Nat}{w0 w:World}{rho:Nat->Option Nat}(hp:PR P base w0 rho H w){b o' off c n:Nat}{row:List V}(hm:(mu rho H w).b b c)(hrow:rowOf (H.get b)=some row)(hn:off+n<=row.length){sp:Option _}(ho:o'=off/\sp=none\/n=0):∃cs:List Value,(loadCells ⟨c,o',sp⟩ n).run P w=.ok cs.toArray w/\cA (mu rho H w) ((row.drop off).take n) cs:=hp.tU hm (HX hrow) hn (YD hrow) ho
theorem Hl{len n}:me P H 1 (.str len n) len ((aF len n).map eO):=by
 refine⟨λm c v w=>tJ.2.2 _ _ v,λ{base w0 w rho c}hp v=>⟨by simp[aL],λn' hn=>?_⟩⟩;refine⟨((aF len n).take n').map λy=>Value.int .u8 y.toNat,?_,?_⟩;.rw[v.1];simp only[Builtin.firstCells,Sem.run_pure];simp
 .rw[Wb,<-YC1];exact cA.qh (by simp) λi v' c' g1 g2=>by rw[Yq,Yj]at g1 g2;obtain⟨y,hy,rfl⟩:=g1;obtain⟨y',hy',rfl⟩:=g2;rw[hy]at hy';cases hy';exact wS _ y
theorem yV{b off len cp sz size}{row}(h1:oU (H.get b)=some row)(h2:off+len*size<=row.length)(hv:(∀v∈(row.drop off).take (len*size),v.one=true)\/rowOf (H.get b)=some row):me P H size (.slice b off len cp sz) len ((row.drop off).take (len*size)):=by
 refine⟨λm c v w=>tJ.1 _ _ _ _ _ v,λ{base w0 w rho c}hp v=>⟨by rw[Yv,WJ];omega,λn' hn=>?_⟩⟩;obtain⟨c1,cap,o',sp,rfl,hm,hle,hcp,ho'⟩:=v;have hns:n'*size<=len*size:=QJ _ hn;obtain⟨cs,g1,g2⟩:=hp.tU (o':=o') (sp:=sp) (off:=off) (n:=n'*size) hm h1 (by omega) (hv.imp (λh v hm=>h v (by rw[show(row.drop off).take (n'*size)=((row.drop off).take (len*size)).take (n'*size)by rw[YA4,Ws hns]]at hm;exact List.mem_of_mem_take hm)) id) (by
  rcases ho' with h|h;.simp_all
  simp_all);refine⟨cs,by simpa[Builtin.firstCells]using g1,?_⟩;rw[YA4,Ws hns];omega
theorem BU{size}:me P H size .aE 0 []:=by
 refine⟨λm c v w=>tJ.2.1 v,λ{base w0 w rho c}hp v=>⟨by simp,λn' hn=>?_⟩⟩;have:n'=0:=by omega
 subst this;exact⟨[],by rw[v];rfl,by simp only[QG,QF,cA]⟩
theorem Kj{size b off cp sz}:me P H size (.slice b off 0 cp sz) 0 []:=by
 refine⟨λm c v w=>tJ.1 _ _ _ _ _ v,λ{base w0 w rho c}hp v=>⟨by simp,λn' hn=>?_⟩⟩;obtain⟨c1,cap,o',sp,rfl,hm,hle,hcp,ho'⟩:=v;have:n'=0:=by omega
 subst this;refine⟨[],?_,by simp only[QG,QF,cA]⟩;simp only[Builtin.firstCells,QG];rfl
theorem qf{size}{x}{f}(h:dg id size H x f=1):∃n l,f n l=1/\me P H size x n l:=by
 cases x<;>first|exact(aw h).elim|skip
 .have h':=h;obtain⟨h1,h2⟩:=aX h';have:=cU h1;subst this;rw[jr]at h2;exact⟨_,_,h2,Hl⟩
 .rename_i b off len cp sz;cases len with|zero=>exact⟨0,[],h,Kj⟩|succ len=>have h':=h;obtain⟨row,h1,h2,hv,h3⟩:=KK h';exact⟨_,_,h3,yV h1 h2 hv⟩
 .exact⟨0,[],h,BU⟩
theorem Hk{x}{f}(h:yU id H x f=1):∃n y l,f n y=1/\me P H 1 x n l/\(∀v∈l,v.one=true)/\∀(m)(c),VR m x c->Cr l->Cp l y:=by
 cases x<;>first|exact(aw h).elim|skip
 .rename_i len n;refine⟨len,n,_,h,Hl,λv hv=>by obtain⟨y,_,rfl⟩:=YW.1 hv;rfl,λm c v _=>?_⟩;exact⟨by simp[aL],by simpa[aL]using v.2⟩
 .rename_i b off len cp sz;have h':=h;obtain⟨row,y,h1,h2,h3,h4,h5⟩:=yO h';have hN:=yV (P:=P) (cp:=cp) (sz:=sz) (HX h1) (show off+len*1<=row.length by omega) (YD h1);rw[Wb]at hN;exact⟨len,y,_,h3,hN,λv hv=>by obtain⟨x,rfl⟩:=h4 v hv;rfl,λ_ _ _ hs=>h5 hs⟩
 .exact⟨0,0,[],h,BU,λv hv=>absurd hv (by simp),λ_ _ _ _=>⟨rfl,by simp⟩⟩
theorem BE{n}(hn:n<=1073741824):∀(r c),c<=2147483648->Builtin.growBy n r c<=2147483648
 |0,c,h=>h|r+1,c,h=>by
  simp only[Builtin.growBy];split;.omega
  .exact BE hn r _ (by omega)
theorem Za{need cap}(hn:need<=1073741824)(hc:cap<need):Builtin.nextslicecap need cap<=2147483648:=by
 unfold Builtin.nextslicecap;split;.omega
 .split;.omega
  .exact BE hn 4 cap (by omega)
theorem UE{d:TypeDesc}(h:∀k,d≠.int k):(match d with|.int _=>true|_=>false)=false:=by simp
structure IS(P:Program)(ts:Array TypeId)(el:TypeId)(size:Nat)(i:TypeInfo)(zv:Value):Prop where
 t0:∃st,ts[0]?=some st/\P.underlying st=some (.slice el)t1:∃xt d,ts[1]?=some xt/\P.underlying xt=some d/\∀k,d≠.int k
 info:P.info? el=some i
 isz:i.size=size
 bytes:i.bytes<=65536zero:i.zero=some zv
 agi:zv.cells.size=size
theorem jA{ts}{el}{size}{i}{zv}(hT:IS P ts el size i zv){ot}{base}{sLen sCap n}{x}{new:List Value}{w w'}(hn:(Builtin.lenOf x).run P w=.ok n w)(hf:(Builtin.firstCells size n x).run P w=.ok new.toArray w)(hle:sLen+n<=sCap)(hst:match base with|some a=>(storeCells (a.add (sLen*size)) new).run P w=.ok () w'|none=>w'=w):(Builtin.append_ ts ot #[.slice base sLen sCap,x]).run P w=.ok (.slice base (sLen+n) sCap) w':=by
 obtain⟨st,h1,h2⟩:=hT.t0;obtain⟨xt,d,h3,h4,h5⟩:=hT.t1;have hz:=UE h5;have hsz:(sizeOf el).run P w=.ok size w:=by simp[sizeOf,typeInfo,hT.info,hT.isz]
 cases base with|none=>subst hst;simp only[Builtin.append_,h1,h3];simp[run_underlying h2,run_underlying h4,hsz,hn,hle,hf]|some a=>simp[Builtin.append_,h1,h3,run_underlying h2,run_underlying h4,hsz,hn,hle,hf,hst]
theorem run_append_grow{ts:Array TypeId}{el:TypeId}{size:Nat}{i:TypeInfo}{zv:Value}(hT:IS P ts el size i zv){ot:TypeId}{base:Option Addr}{sLen sCap n:Nat}{x:Value}{old new:List Value}{w:World}(hn:(Builtin.lenOf x).run P w=.ok n w)(hlt:sCap<sLen+n)(hb:sLen+n<=1073741824)(ho:(Builtin.firstCells size sLen (.slice base sLen sCap)).run P {w with drawn:=w.drawn+1}=.ok old.toArray {w with drawn:=w.drawn+1})(hf:(Builtin.firstCells size n x).run P {w with drawn:=w.drawn+1}=.ok new.toArray {w with drawn:=w.drawn+1}):∃cap w' rest,(sLen+n<=cap/\cap<9223372036854775808)/\rest.size=(cap-(sLen+n))*size/\(Builtin.append_ ts ot #[.slice base sLen sCap,x]).run P w=.ok (.slice (some ⟨w.heap.size,0,none⟩) (sLen+n) cap) w'/\xq w w'/\w'.heap=w.heap.push (.cells (old.toArray++new.toArray++rest) el):=by
 obtain⟨st,h1,h2⟩:=hT.t0;obtain⟨xt,d,h3,h4,h5⟩:=hT.t1;have hz:=UE h5;have hsz:(sizeOf el).run P w=.ok size w:=by simp[sizeOf,typeInfo,hT.info,hT.isz]
 have hti:∀w:World,(typeInfo el).run P w=.ok i w:=λw=>by simp[typeInfo,hT.info]
 have hzr:∀w:World,(zeroValue el).run P w=.ok zv w:=λw=>by simp[zeroValue,typeInfo,hT.info,hT.zero]
 have hnle:¬sLen+n<=sCap:=by omega
 have hbig:¬(((sLen+n:Nat):Int)>IntKind.i64.max/\((false=true)\/i.bytes=0)):=by rintro⟨h6,_⟩;simp[IntKind.max,IntKind.signed,IntKind.bits]at h6;omega
 have hcap:¬(Builtin.nextslicecap (sLen+n) sCap*i.bytes>2^48):=by have:=Za hb hlt;have h7:Builtin.nextslicecap (sLen+n) sCap*i.bytes<=2147483648*65536:=YS3 this hT.bytes;omega
 have hq:(choose (.appendCap (sLen+n) sCap el)).run P w=.ok ((Question.appendCap (sLen+n) sCap el).cut (w.tape w.drawn (.appendCap (sLen+n) sCap el))) {w with drawn:=w.drawn+1}:=by rw[run_choose];rfl
 have hle:sLen+n<=(Question.appendCap (sLen+n) sCap el).cut (w.tape w.drawn (.appendCap (sLen+n) sCap el))/\(Question.appendCap (sLen+n) sCap el).cut (w.tape w.drawn (.appendCap (sLen+n) sCap el))<9223372036854775808:=by have hmod:=Qq (w.tape w.drawn (.appendCap (sLen+n) sCap el)) (show 0<2^63-(sLen+n)by omega);simp only[Question.cut];omega
 generalize(Question.appendCap (sLen+n) sCap el).cut (w.tape w.drawn (.appendCap (sLen+n) sCap el))=cap at hq hle;refine⟨cap,{w with drawn:=w.drawn+1,heap:=w.heap.push (.cells (old.toArray++new.toArray++Builtin.zeroCells zv.cells (cap-(sLen+n))) el)},Builtin.zeroCells zv.cells (cap-(sLen+n)),hle,by simp[Builtin.zeroCells,hT.agi],?_,⟨rfl,rfl,rfl⟩,rfl⟩;have hbig':¬(IntKind.i64.max<(((sLen+n:Nat)):Int)/\i.bytes=0):=λh=>hbig ⟨h.1,YD h.2⟩;have hcap':¬(2^48<Builtin.nextslicecap (sLen+n) sCap*i.bytes):=hcap;unfold Builtin.append_;simp only[h1,List.getElem?_toArray,List.getElem?_cons_zero,QI];simp only[h3,Sem.run_bind,run_underlying h2,run_underlying h4,hsz,Result.andThen_ok,Sem.run_pure,YV,if_false,hn,hnle,hti,hcap,hq,run_askRoom,Sem.run_ite,Bool.not_false,if_true,ho,hf,hzr,newRow,run_newObj];simp_all
theorem Xs{st xt el}{s'}{i}{asL}(hts:asL.toList=[st,xt])(hel:uV P st=some el)(hs:rq P el=some s')(hi:P.info? el=some i)(hb:i.bytes<=65536)(hz:adK P el s'=true)(hl:acN P xt=true):∃zv,IS P asL el s' i zv:=by
 obtain⟨zv,hzv,hzs⟩:∃zv,i.zero=some zv/\zv.cells.size=s':=by
  unfold adK at hz;split at hz;.rename_i z hzt;obtain⟨i',zv,h1,h2,h3,_⟩:=nJ hzt;have:=(h3 ⟨λ_ _=>True,λ_ _=>True⟩).length;simp_all
  simp_all
 have h0:asL[0]?=some st:=by rw[<-Ys,hts];rfl
 have h1:asL[1]?=some xt:=by rw[<-Ys,hts];rfl
 refine⟨zv,⟨st,h0,qU hel⟩,?_,hi,by simpa[rq,hi]using hs,hb,hzv,hzs⟩;unfold acN at hl;split at hl;.simp_all
 .simp_all
 .simp_all
 simp_all
section app
variable{p q:Operand}{ts:Array TypeId}{s x:Arg}{el:TypeId}{size:Nat}{i:TypeInfo}{zv:Value}
theorem iC(hop:o.op=.call {callee:=.builtin .append,args:=#[p,q],argTypes:=ts})(hp':aN nt p=some s)(hq':aN nt q=some x){v}{H'}(h:∀(base)(w0)(rho)(w)(cs cx),PR P base w0 rho H w->VR (mu rho H w) (aA s e) cs->VR (mu rho H w) (aA x e) cx->∃cv w',(Builtin.append_ ts o.type #[cs,cx]).run P w=.ok cv w'/\Left P base w0 rho H w v H' cv w'):fD P nt o e H v H':=fD.of_run (by simp_all) λbase w0 rho w a hp ho=>by obtain⟨cv,w',h1,h2⟩:=h base w0 rho w _ _ hp (ho p (by simp[hop,Op.operands,Call.operands]) s hp') (ho q (by simp[hop,Op.operands,Call.operands]) x hq');refine⟨cv,w',?_,h2⟩;rw[fO hop a.eval];simp[builtin,h1]
theorem sY(hT:IS P ts el size i zv){l}(hN:me P H size (aA x e) 0 l)(hsl:(∃b o len cp sz,aA s e=.slice b o len cp sz)\/aA s e=.aE){base}{w0}{rho}{w}{cs cx}(hp:PR P base w0 rho H w)(vs:VR (mu rho H w) (aA s e) cs)(vx:VR (mu rho H w) (aA x e) cx){ot}:∃cv w',(Builtin.append_ ts ot #[cs,cx]).run P w=.ok cv w'/\Left P base w0 rho H w (aA s e) H cv w':=by
 have hlen:=hN.1 _ _ vx w;obtain⟨_,h2⟩:=hN.2 hp vx;obtain⟨cl,h3,h4⟩:=h2 0 (YC _);have hcl:=by simp only[QG,QF,cA]at h4;omega
 subst hcl;refine⟨cs,w,?_,rho,vs,hp,Ext.refl hp.lt⟩;rcases hsl with⟨b,oo,len,cp,sz,hs⟩|hs<;>rw[hs]at vs<;>simp only[VR]at vs;.obtain⟨c,cap,o',sp,rfl,hm,hle,_⟩:=vs;exact jA hT hlen h3 hle rfl
 .rw[vs];exact jA hT hlen h3 (YC _) rfl
theorem sX(hT:IS P ts el size i zv){n}{l old}(hN:me P H size (aA x e) n l){H'}{bl}(cN:py H bl H'){base}{w0}{rho}{w}{cx}(hp:PR P base w0 rho H w)(vx:VR (mu rho H w) (aA x e) cx){ba}{sLen sCap}(hold:∀w1:World,w1.heap=w.heap->PR P base w0 rho H w1->∃oc:List Value,(Builtin.firstCells size sLen (.slice ba sLen sCap)).run P w1=.ok oc.toArray w1/\cA (mu rho H w) old oc)(hol:old.length=sLen*size)(hlt:sCap<sLen+n)(hb:sLen+n<=1073741824)(hrow:∀oc nc,cA (mu rho H w) old oc->cA (mu rho H w) l nc->rowOf bl=some (old++l)/\(∀len m,bl=.bytes len m->m<256^len)/\(∀v∈old++l,v.one=true)){ot}:∃cv w',(Builtin.append_ ts ot #[.slice ba sLen sCap,cx]).run P w=.ok cv w'/\Left P base w0 rho H w (.slice H.n 0 (sLen+n) 0 size) H' cv w':=by
 have hlen:=hN.1 _ _ vx w;have hpd:=hp.drawn (w.drawn+1);obtain⟨oc,h1,h2⟩:=hold {w with drawn:=w.drawn+1} rfl hpd;obtain⟨hll,h3⟩:=hN.2 hpd vx;obtain⟨nc,h4,h5⟩:=h3 n (YC _);rw[Yk (by omega)]at h5;obtain⟨cap,w',rest,g1,g10,g2,g3,g4⟩:=run_append_grow hT hlen hlt hb h1 h4;obtain⟨r1,r2,r3⟩:=hrow oc nc h2 h5;have hR:jV (mu rho H w) (old++l) (oc.toArray++nc.toArray++rest) (0,0):=by
  refine⟨λj v hj=>⟨r3 v (Yb hj),?_⟩,λj _=>by simp⟩;obtain⟨c,h6,h7⟩:=(h2.append h5).get hj;have hjl:j<(oc++nc).length:=by
   rcases Yh j (oc++nc).length with h|h;.omega
   simp_all
  rw[Qh (by simp_all)];simp_all
 obtain⟨rho',p1,p2,p3⟩:=hp.fresh cN r1 r2 hR g3 g4;exact⟨_,w',g2,rho',by exact⟨_,_,_,_,rfl,p3,g1.1,⟨λq hq=>absurd hq (by omega),λ_=>YD ⟨⟨_,_,_,by rw[g4,Qr],by have e1:=h2.length;have e2:=h5.length;simp only[YQ4,YJ0,e1,e2,hol,hll,g10,WG];rw[<-Wi,<-Wi];simp_all⟩,g1.2⟩⟩,YF ⟨rfl,rfl⟩⟩,p1,p2⟩
theorem abM(hT:IS P ts el size i zv){n}{l}(hN:me P H size (aA x e) n l)(hn0:0<n){b off len q sz}(hle:len+n<=q){base}{w0}{rho}{w}{cs cx}(hp:PR P base w0 rho H w)(vs:VR (mu rho H w) (.slice b off len (q+1) sz) cs)(vx:VR (mu rho H w) (aA x e) cx){H'}(hone:∀v∈l,v.one=true)(hst:∀{base}{w0 w}{rho}{c}{ms},PR P base w0 rho H w->(mu rho H w).b b c->(∀v∈l,v.one=true)->cA (mu rho H w) l ms->∃w',(storeCells ⟨c,off+len*size,none⟩ ms 0).run P w=.ok () w'/\PR P base w0 rho H' w'/\Ext rho H w rho H' w'){ot}:∃cv w',(Builtin.append_ ts ot #[cs,cx]).run P w=.ok cv w'/\Left P base w0 rho H w (.slice b off (len+n) (q+1) sz) H' cv w':=by
 have hlen:=hN.1 _ _ vx w;obtain⟨hll,h3⟩:=hN.2 hp vx;obtain⟨nc,h4,h5⟩:=h3 n (YC _);rw[Yk (by omega)]at h5;obtain⟨c,cap,o',sp,rfl,hm,hlc,hcp,ho'⟩:=vs;have:=hcp.1 q rfl;subst this;obtain⟨rfl,rfl⟩:o'=off/\sp=none:=by
  rcases ho' with h|h;.omega
  omega
 obtain⟨w',g1,g2,g3⟩:=hst hp hm hone h5;refine⟨_,w',jA hT hlen h4 hle (by show(storeCells (Addr.add ⟨c,o',none⟩ (len*size)) nc).run P w=_;rw[Addr.add_lit];omega),rho,?_,g2,g3⟩;exact⟨c,cap,o',none,rfl,g3.mu.1 _ _ hm,hle,⟨hcp.1,λh=>absurd h (by omega)⟩,YF ⟨rfl,rfl⟩⟩
theorem EI(hT:IS P ts el size i zv)(hs0:0<size){n:Nat}{l row:List V}(hN:me P H size (aA x e) n l)(hn0:0<n){b len:Nat}(hrow:rowOf (H.get b)=some row)(hrl:row.length=len*size)(hb:len+n<=1073741824){H':Heap}{bl:eN}(h1:H'.n=H.n+1)(h2:H'.bD<=H.bD)(h3:H'.bD<=b)(h4:H'.get b=.dead)(h5:H'.get H.n=bl)(h6:∀j,j≠b->j≠H.n->H'.get j=H.get j){base:Nat}{w0:World}{rho:Nat->Option Nat}{w:World}{cs cx:Value}(hp:PR P base w0 rho H w)(vs:VR (mu rho H w) (.slice b 0 len 0 size) cs)(vx:VR (mu rho H w) (aA x e) cx)(hbl:∀oc nc,cA (mu rho H w) row oc->cA (mu rho H w) l nc->rowOf bl=some (row++l)/\(∀len m,bl=.bytes len m->m<256^len)/\(∀v∈row++l,v.one=true))(hkd:∀q,bl=.cells q->∃q',H.get b=.cells q'){ot:TypeId}:∃cv w',(Builtin.append_ ts ot #[cs,cx]).run P w=.ok cv w'/\Left P base w0 rho H w (.slice H.n 0 (len+n) 0 size) H' cv w':=by
 have hlen:=hN.1 _ _ vx w;simp only[VR]at vs;obtain⟨c,cap,o',sp,rfl,hm,hlc,hcp,ho'⟩:=vs;have hr:=hp.mE hm hrow;obtain⟨cur,elc,fr,k1,k2⟩:=hp.row hr hrow;have hnm:=(iq hrow).2;by_cases hle:len+n<=cap
 .obtain⟨rfl,rfl⟩:o'=0/\sp=none:=by
   rcases ho' with h|h;.exact h
   .omega
  obtain⟨hll,h8⟩:=hN.2 hp vx;obtain⟨nc,g4,g5⟩:=h8 n (YC _);rw[Yk (by omega)]at g5;have hrv:=k2.vrs (o:=0) (n:=row.length) (by omega);rw[Wz,List.take_length]at hrv;obtain⟨r1,r2,r3⟩:=hbl _ nc hrv g5;have hcapb:cap<9223372036854775808:=by
   rcases hcp.2 trivial with h|⟨_,h⟩;.omega
   .exact h
  have hz:cur.size=cap*size:=by
   rcases hcp.2 trivial with h|⟨⟨cs2,e2,fr2,h,h'⟩,_⟩;.omega
   .rw[k1]at h;cases h;omega
  have hncl:=g5.length;have hsum:len*size+n*size<=cap*size:=by rw[<-Wi];exact QJ _ hle
  obtain⟨w',cur',q1,q2,q3,q4,q5,q6,q7⟩:=iM (P:=P) (o:=len*size) nc 0 cur w k1 (by omega) (Ek g5 λv hv=>r3 v (List.mem_append_right _ hv)) k2.2;have hR:jV (mu rho H w) (row++l) cur' fr:=by
   refine⟨λj v hj=>⟨r3 v (Yb hj),?_⟩,by rw[q3];exact k2.2⟩;rw[q4];by_cases hj1:j<row.length;.rw[Yp hj1]at hj;rw[if_neg (by omega)];exact(k2.1 j v hj).2
   .rw[Ym (by omega)]at hj;obtain⟨cv,t1,t2⟩:=g5.get hj;have hjl:j-row.length<nc.length:=by
     rcases Yh (j-row.length) nc.length with h|h;.exact h
     .rw[WT h]at t1;cases t1
    rw[if_pos (by omega),show j-(len*size+0)=j-row.length by omega];exact⟨cv,t1,t2⟩
  obtain⟨p1,p2⟩:=hp.move (w':=w') (c':=c) (o:=.cells cur' elc fr) hr hnm h1 h2 h3 h4 h5 h6 (iq r1).1 q7 (by omega) (YF rfl) (by have:=(hp.j8 b c hr).2.2.1;omega) q2 (λj _ hj=>q5 j hj) (mJ r1 r2 hR λq hq=>by obtain⟨q',hq'⟩:=hkd q hq;rw[q3];exact hp.afY hr hq' k1) (λcs2 e2 fr2 h=>by rw[k1]at h;cases h;exact⟨cur',elc,fr,q2,q3⟩) (λr h=>by rw[k1]at h;cases h);refine⟨_,w',jA hT (base:=some ⟨c,0,none⟩) hlen g4 hle (by show(storeCells (Addr.add ⟨c,0,none⟩ (len*size)) nc).run P w=_;rw[Addr.add_lit,WG];exact q1),_,?_,p1,p2⟩;simp only[VR];refine⟨c,cap,0,none,rfl,⟨by rw[h1];omega,λ_=>by simp⟩,hle,⟨λq hq=>absurd hq (by omega),λ_=>YD ⟨⟨cur',elc,fr,q2,by omega⟩,hcapb⟩⟩,YF ⟨rfl,rfl⟩⟩
 .have hpd:=hp.drawn (w.drawn+1);obtain⟨hll,h8⟩:=hN.2 hpd vx;obtain⟨nc,g4,g5⟩:=h8 n (YC _);rw[Yk (by omega)]at g5;obtain⟨oc,j1,j2⟩:=hpd.qu (o':=o') (sp:=sp) (off:=0) (n:=len*size) hm hrow (by omega) (by
   rcases ho' with h|h;.exact YF h
   .right;have:len=0:=by omega
    subst this;omega);rw[Wz,Yk (by omega)]at j2;obtain⟨cap',w',rest,q1,q10,q2,q3,q4⟩:=run_append_grow hT (base:=some ⟨c,o',sp⟩) (sLen:=len) (sCap:=cap) hlen (by omega) hb (by simpa[Builtin.firstCells]using j1) g4 (ot:=ot);obtain⟨r1,r2,r3⟩:=hbl oc nc j2 g5;have hR:jV (mu rho H w) (row++l) (oc.toArray++nc.toArray++rest) (0,0):=by
   refine⟨λj v hj=>⟨r3 v (Yb hj),?_⟩,λj _=>by simp⟩;obtain⟨cv,t1,t2⟩:=(j2.append g5).get hj;have hjl:j<(oc++nc).length:=by
    rcases Yh j (oc++nc).length with h|h;.exact h
    .rw[WT h]at t1;cases t1
   refine⟨cv,?_,t2⟩;rw[Qh (by simpa using hjl)];simpa using t1
  have hcw:c<w.heap.size:=(hp.j8 b c hr).2.2.1;have hold:∀j,j<w.heap.size->w'.heap[j]?=w.heap[j]?:=λj hj=>by rw[q4,QS,if_neg (by omega)]
  obtain⟨p1,p2⟩:=hp.move (w':=w') (c':=w.heap.size) (o:=.cells (oc.toArray++nc.toArray++rest) el) hr hnm h1 h2 h3 h4 h5 h6 (iq r1).1 q3 (by rw[q4];simp) (YD (YC _)) (by rw[q4];simp) (by rw[q4,Qr]) (λj hj _=>hold j hj) (mJ r1 r2 hR) (λcs2 e2 fr2 h=>⟨cs2,e2,fr2,(hold c hcw).trans h,rfl⟩) (λr h=>by obtain⟨_,_,_,k1,_⟩:=hp.row hr hrow;rw[k1]at h;cases h);refine⟨_,w',q2,_,?_,p1,p2⟩;simp only[VR];refine⟨w.heap.size,cap',0,none,rfl,⟨by rw[h1];omega,λ_=>by simp⟩,q1.1,⟨λq hq=>absurd hq (by omega),λ_=>YD ⟨⟨_,_,_,by rw[q4,Qr],by have e1:=j2.length;have e2:=g5.length;simp only[YQ4,YJ0,e1,e2,hrl,hll,q10,WG];rw[<-Wi,<-Wi];congr 1;omega⟩,q1.2⟩⟩,YF ⟨rfl,rfl⟩⟩
end app
theorem U9{asL:Array Operand}{ts:Array TypeId}(hop:o.op=.call {callee:=.builtin .append,args:=asL,argTypes:=ts})(h:aQ (ai P nt o) id ph e H k=1):Good P nt o e H k:=by
 simp only[ai,hop,dA]at h;split at h
 .rename_i s x st xt hx hts;obtain⟨p,q,rfl,hp',hq'⟩:=EJ hx;split at h
  .rename_i el hel;split at h
   .rename_i s' i hs hi;split at h
    .rename_i hc;simp only[Yu,decide_eq_true_eq]at hc;obtain⟨⟨⟨hs0,hby⟩,hzl⟩,hlt⟩:=hc;obtain⟨zv,hT⟩:=Xs hts hel hs hi hby hzl hlt;have h':aH (GJ P el&&s'==1) (Mc s x id e H k) (Md s' s x id e H k)=1:=h;rcases bS h' with⟨hu8,h1⟩|⟨_,h1⟩
     .simp only[Yu,beq_iff_eq]at hu8;obtain⟨_,rfl⟩:=hu8;unfold Mc at h1;rw[aq,aq]at h1;obtain⟨n,y,l,h2,hN,hone,hby2⟩:=Hk (P:=P) h1;have e8:∀(a k:Nat),Yt a (Yn 8 k)=256^k*a:=λa k=>by show a<<<(8*k)=_;rw[Nat.shiftLeft_eq,QY,Nat.mul_comm]
      have hjoin:∀(m:M)(row:List V)(rx:Nat)(oc nc:List Value)(cxv:Value),VR m (aA x e) cxv->(Cr row->Cp row rx)->cA m row oc->cA m l nc->(row++l)=(aF (row.length+l.length) (rx+256^row.length*y)).map eO/\rx+256^row.length*y<256^(row.length+l.length):=by intro m row rx oc nc cxv vx hrx hoc hnc;obtain⟨g1,g2⟩:=hrx hoc.small;obtain⟨g3,g4⟩:=hby2 m cxv vx hnc.small;rw[fI _ _ _ _ g2,Yz,<-g1,<-g3];refine⟨rfl,?_⟩;rw[Nat.pow_add];calc rx+256^row.length*y<256^row.length+256^row.length*y:=by omega
        _=256^row.length*(y+1):=by rw[Nat.mul_add,Wb,Nat.add_comm]
        _<=256^row.length*256^l.length:=Nat.mul_le_mul_left _ g4
      rcases fZ h2 with⟨b,off,len,cp,sz,hsv,h3⟩|⟨hsv,h3⟩;.cases n with|zero=>exact⟨_,_,iC hop hp' hq' λbase w0 rho w cs cx hp vs vx=>sY hT hN (YF ⟨b,off,len,cp,sz,hsv⟩) hp vs vx,h3⟩|succ n=>
        have h4:Nw id (n+1) y b off len cp sz H k=1:=h3;unfold Nw at h4;rw[ay]at h4;obtain⟨h5,h6⟩:=aX h4;have hneed:=cH h5
        cases cp with|zero=>
         obtain⟨h7,h8⟩:=aX h6;obtain⟨h9,h10⟩:=aX h8;have e1:=cU h7;have e2:=cU h9;subst e1 e2;rw[aU]at h10;rcases nO h10 with⟨l0,_,h11⟩|⟨ln,mx,hbb,h11⟩;.exact(aw h11).elim
         obtain⟨h12,h13⟩:=aX h11;have e3:=cU h12;subst e3;rw[ay]at h13;obtain⟨H1,h14,h15⟩:=gW h13;obtain⟨H2,h16,h17⟩:=dP h14;rw[h15.n]at h16;have hbn:=h15.lt;refine⟨_,_,iC hop hp' hq' λbase w0 rho w cs cx hp vs vx=>?_,h16⟩;rw[hsv]at vs;have hrow:rowOf (H.get b)=some ((aF ln mx).map eO):=by rw[hbb];rfl
         refine EI (bl:=.bytes (Yi ln (n+1)) (Yi mx (Yt y (Yn 8 ln)))) hT (by omega) hN (by omega) hrow (by simp[aL]) hneed (by rw[h17.n,h15.n]) (by rw[h17.bD];exact h15.bD) (by rw[h17.bD];exact h15.wb) (by rw[h17.xf b (by rw[h15.n];omega)];exact h15.get) (by rw[<-h15.n];exact h17.get) (λj hj1 hj2=>by rw[h17.xf j (by rw[h15.n];exact hj2)];exact h15.xf j hj1) hp vs vx (hkd:=λ_ e=>nomatch e) λoc nc hoc hnc=>?_;have hcan:mx<256^ln:=by
          have hmu:∃c,(mu rho H w).b b c:=by simp only[VR]at vs;obtain⟨c,_,_,_,_,hm,_⟩:=vs;exact⟨c,hm⟩
          obtain⟨c,hm⟩:=hmu;obtain⟨ob,_,q2⟩:=hp.cQ b c (hp.mE hm hrow);rw[hbb]at q2;obtain⟨_,_,_,_,⟨hx,_⟩,_⟩:=q2;exact hx
         obtain⟨g1,g2⟩:=hjoin _ ((aF ln mx).map eO) mx oc nc cx vx (λ_=>⟨by simp[aL],by simpa[aL]using hcan⟩) hoc hnc;have hll:=(hN.2 hp vx).1;simp only[Yg,aL]at g1 g2;rw[hll,Wb]at g1 g2;have e9:Yi mx (Yt y (Yn 8 ln))=mx+256^ln*y:=by rw[e8];rfl
         refine⟨by rw[e9];simp only[rowOf];rw[g1];rfl,λln' m' e=>by cases e;rw[e9];exact g2,λv hv=>?_⟩;rcases Yl.1 hv with hv|hv;.obtain⟨yy,_,rfl⟩:=YW.1 hv;rfl
         .exact hone v hv|succ qq=>
         have h7:aH (Yd (Yi len (n+1)) qq) (no _) (nv id H b off len λm=>av (Yi m (Yt y (Yn 8 len))) λm'=>cN H (.bytes (Yi len (n+1)) m') λb' H=>k (.slice b' 0 (Yi len (n+1)) 0 1) H)=1:=h6;rcases bS h7 with⟨_,h8⟩|⟨h8,h9⟩;.exact(aw h8).elim
         have hq:qq<len+(n+1):=by
          rcases Yh qq (len+(n+1))with h|h;.exact h
          .have:Yd (Yi len (n+1)) qq=true:=WX h;rw[this]at h8;cases h8
         obtain⟨row,rx,h10,h11,h12,h13,h14⟩:=yO h9;rw[ay]at h12;obtain⟨H',h15,h16⟩:=dP h12;refine⟨_,_,iC hop hp' hq' λbase w0 rho w cs cx hp vs vx=>?_,h15⟩;rw[hsv]at vs;simp only[VR]at vs;obtain⟨c,cap,o',sp,rfl,hm,hlc,hcp,ho'⟩:=vs;have hcq:=hcp.1 qq rfl;subst hcq;have hrl:((row.drop off).take len).length=len:=by simp;omega
         refine sX hT hN h16 hp vx (old:=(row.drop off).take len) (λw1 hw1 hp1=>?_) (by rw[hrl,Wb]) hq hneed (λoc nc hoc hnc=>?_)
         .obtain⟨oc,g1,g2⟩:=hp1.qu (o':=o') (off:=off) (n:=len) hm h10 h11 (by
           rcases ho' with h|h;.exact YF h
           .right;omega);exact⟨oc,by simpa[Builtin.firstCells]using g1,by rw[show mu rho H w=mu rho H w1 by unfold mu;rw[hw1]];exact g2⟩
         .obtain⟨g1,g2⟩:=hjoin _ ((row.drop off).take len) rx oc nc cx vx h14 hoc hnc;have hll:=(hN.2 hp vx).1;rw[hrl,hll,Wb]at g1 g2;have e9:Yi rx (Yt y (Yn 8 len))=rx+256^len*y:=by rw[e8];rfl
          refine⟨by rw[e9];simp only[rowOf];rw[g1];rfl,λln' m' e=>by cases e;rw[e9];exact g2,λv hv=>?_⟩;rcases Yl.1 hv with hv|hv;.obtain⟨yy,rfl⟩:=h13 v hv;rfl
          .exact hone v hv
      .cases n with|zero=>exact⟨_,_,iC hop hp' hq' λbase w0 rho w cs cx hp vs vx=>sY hT hN (YD hsv) hp vs vx,h3⟩|succ n=>have h4:aH (Yd (n+1) 1073741824) (cN H (.bytes (n+1) y) λb' H=>k (.slice b' 0 (n+1) 0 1) H) (no _)=1:=h3;obtain⟨h5,h6⟩:=aX h4;have hneed:=cH h5;obtain⟨H',h7,h8⟩:=dP h6;refine⟨_,_,iC hop hp' hq' λbase w0 rho w cs cx hp vs vx=>?_,h7⟩;rw[hsv]at vs;simp only[VR]at vs;subst vs;have:=sX (ba:=none) (sLen:=0) (sCap:=0) (ot:=o.type) hT hN h8 hp vx (old:=[]) (λw1 hw1 hp1=>⟨[],rfl,by simp only[cA]⟩) (by simp) (by omega) (by omega) (λoc nc hoc hnc=>by obtain⟨g1,g2⟩:=hjoin _ [] 0 oc nc cx vx (λ_=>⟨rfl,by simp⟩) hoc hnc;have hll:=(hN.2 hp vx).1;simp only[List.length_nil,WG,Nat.pow_zero,Nat.one_mul,hll,Wb]at g1 g2;refine⟨by simp only[rowOf];rw[g1],λln' m' e=>by cases e;exact g2,λv hv=>hone v (by simpa using hv)⟩);rw[WG]at this;exact this
     .unfold Md at h1;rw[aq,aq]at h1;obtain⟨n,l,h2,hN⟩:=qf (P:=P) h1;rcases fZ h2 with⟨b,off,len,cp,sz,hsv,h3⟩|⟨hsv,h3⟩;.cases n with|zero=>exact⟨_,_,iC hop hp' hq' λbase w0 rho w cs cx hp vs vx=>sY hT hN (YF ⟨b,off,len,cp,sz,hsv⟩) hp vs vx,h3⟩|succ n=>
        have h4:sW id s' (n+1) l b off len cp sz H k=1:=h3;unfold sW at h4;obtain⟨hone,h4⟩:=fE h4;rw[ay]at h4;obtain⟨h5,h6⟩:=aX h4;have hneed:=cH h5
        cases cp with|zero=>
         obtain⟨h7,h8⟩:=aX h6;obtain⟨h9,h10⟩:=aX h8;have e1:=cU h7;have e2:=cU h9;subst e1 e2;rw[aU]at h10;rcases nO h10 with⟨l0,hbb,h11⟩|⟨ln,mx,_,h11⟩
         .obtain⟨h12,h13⟩:=aX h11;have e3:=cU h12;rw[kF]at e3;rw[fK]at h13;obtain⟨H1,h14,h15⟩:=gW h13;obtain⟨H2,h16,h17⟩:=dP h14;rw[h15.n]at h16;have hbn:=h15.lt;refine⟨_,_,iC hop hp' hq' λbase w0 rho w cs cx hp vs vx=>?_,h16⟩;rw[hsv]at vs;have hrow:rowOf (H.get b)=some l0:=by rw[hbb];rfl
          refine EI (bl:=.cells (l0++l)) hT hs0 hN (by omega) hrow e3 hneed (by rw[h17.n,h15.n]) (by rw[h17.bD];exact h15.bD) (by rw[h17.bD];exact h15.wb) (by rw[h17.xf b (by rw[h15.n];omega)];exact h15.get) (by rw[<-h15.n];exact h17.get) (λj hj1 hj2=>by rw[h17.xf j (by rw[h15.n];exact hj2)];exact h15.xf j hj1) hp vs vx (hkd:=λ_ _=>⟨_,hbb⟩) λoc nc hoc hnc=>⟨rfl,(λ_ _ e=>nomatch e),λv hv=>?_⟩;rcases Yl.1 hv with hv|hv
          .have hmu:∃c,(mu rho H w).b b c:=by simp only[VR]at vs;obtain⟨c,_,_,_,_,hm,_⟩:=vs;exact⟨c,hm⟩
           obtain⟨c,hm⟩:=hmu;obtain⟨_,_,_,_,q2⟩:=hp.row (hp.mE hm hrow) hrow;obtain⟨j,hj⟩:=List.getElem?_of_mem hv;exact(q2.1 j v hj).1
          .exact hone v hv
         .exact(aw h11).elim|succ qq=>
         have h7:aH (Yd (Yi len (n+1)) qq) (ei id H b (Yi off (Yn len s')) l λH=>k (.slice b off (Yi len (n+1)) (qq+1) sz) H) (fi id H b off (Yn len s') λl0=>bB id l0 (kB l0 l λl'=>cN H (.cells l') λb' H=>k (.slice b' 0 (Yi len (n+1)) 0 s') H))=1:=h6;rcases bS h7 with⟨h8,h9⟩|⟨h8,h9⟩;.obtain⟨H',h10,h11⟩:=l7 (P:=P) h9;refine⟨_,_,iC hop hp' hq' λbase w0 rho w cs cx hp vs vx=>?_,h10⟩;rw[hsv]at vs;exact abM hT hN (by omega) (cH h8) hp vs vx hone h11
         .have hq:qq<len+(n+1):=by
           rcases Yh qq (len+(n+1))with h|h;.exact h
           .have:Yd (Yi len (n+1)) qq=true:=WX h;rw[this]at h8;cases h8
          obtain⟨row,h10,h11,h12⟩:=qb h9;obtain⟨hone2,h13⟩:=fE h12;rw[fK]at h13;obtain⟨H',h15,h16⟩:=dP h13;refine⟨_,_,iC hop hp' hq' λbase w0 rho w cs cx hp vs vx=>?_,h15⟩;rw[hsv]at vs;simp only[VR]at vs;obtain⟨c,cap,o',sp,rfl,hm,hlc,hcp,ho'⟩:=vs;have hcq:=hcp.1 qq rfl;subst hcq;have h11':off+len*s'<=row.length:=h11;refine sX hT hN h16 hp vx (old:=(row.drop off).take (len*s')) (λw1 hw1 hp1=>?_) (by rw[Yv,WJ];exact Ws (by omega)) hq hneed (λoc nc hoc hnc=>⟨rfl,(λ_ _ e=>nomatch e),λv hv=>?_⟩)
          .obtain⟨oc,g1,g2⟩:=hp1.qu (o':=o') (off:=off) (n:=len*s') hm h10 h11' (by
            rcases ho' with h|h;.exact YF h
            .right;have:len=0:=by omega
             subst this;omega);exact⟨oc,by simpa[Builtin.firstCells]using g1,by rw[show mu rho H w=mu rho H w1 by unfold mu;rw[hw1]];exact g2⟩
          .rcases Yl.1 hv with hv|hv;.exact hone2 v hv
           .exact hone v hv
      .cases n with|zero=>exact⟨_,_,iC hop hp' hq' λbase w0 rho w cs cx hp vs vx=>sY hT hN (YD hsv) hp vs vx,h3⟩|succ n=>have h4:bB id l (aH (Yd (n+1) 1073741824) (cN H (.cells l) λb' H=>k (.slice b' 0 (n+1) 0 s') H) (no _))=1:=h3;obtain⟨hone,h4⟩:=fE h4;obtain⟨h5,h6⟩:=aX h4;have hneed:=cH h5;obtain⟨H',h7,h8⟩:=dP h6;refine⟨_,_,iC hop hp' hq' λbase w0 rho w cs cx hp vs vx=>?_,h7⟩;rw[hsv]at vs;simp only[VR]at vs;subst vs;have:=sX (ba:=none) (sLen:=0) (sCap:=0) (ot:=o.type) hT hN h8 hp vx (old:=[]) (λw1 hw1 hp1=>⟨[],rfl,by simp only[cA]⟩) (by simp) (by omega) (by omega) (λoc nc hoc hnc=>⟨rfl,(λ_ _ e=>nomatch e),λv hv=>hone v (by simpa using hv)⟩);rw[WG]at this;exact this
    .exact(aw h).elim
   .exact(aw h).elim
  .exact(aw h).elim
 .exact(aw h).elim
end
end Go.Ev
end
