/- EvE: a part of the evaluator,of its logic,or of the laws' walk in it. -/
import Derived.Test.YtabnemidjklolaaGreatDoorEvD
import Derived.Maps.RangeRun
open List renaming getElem?_eq_getElem→YA,mem_cons→YN,getElem?_eq_some_iff→YQ,mem_map→YW,mem_of_getElem?→Yb,getElem?_map→Yq,getElem?_of_mem→Wg
open Or renaming inr→YD,inl→YF
open Array renaming getElem?_eq_some_iff→YO,size_setIfInBounds→YJ4
set_option linter.unusedVariables false
set_option linter.unusedSimpArgs false
set_option linter.unusedSectionVars false
section
namespace Go.Ev
open Go.RowKit Go.MapKept Go.WideShapes Go.ChangeMaps
theorem AJ{P:Program}{m:M}{t kt el:TypeId}{d:TypeDesc}{w:World}{bd cD:Nat}{D:Array MapEntry}{esd:List (V×V)}{x y:V}{kx vy:Value}(hu:P.underlying t=some (.map kt el))(hd1:P.underlying kt=some d)(hd2:IV false d)(g1:w.heap[bd]?=some (.map D cD))(g2:ec m esd D.toList)(gs:ft D cD)(go:cT (esd.map (·.1)))(hk:∀p∈esd,AX false x p.1)(hx:∃q n,x=.int q n)(hvx:VR m x kx)(hvy:VR m y vy):∃(D':Array MapEntry)(cD':Nat)(esd':List (V×V)),(Instr.mapUpdate t (.map (some bd)) kx vy).run P w=.ok () {w with heap:=w.heap.setIfInBounds bd (.map D' cD')}/\ec m esd' D'.toList/\ft D' cD'/\cT (esd'.map (·.1))/\∀p,p∈esd'↔p=(x,y)\/(p.1≠x/\p∈esd):=by
 obtain⟨q,n,hxe⟩:=hx;by_cases hin:∃v,(x,v)∈esd
 .obtain⟨v,hv⟩:=hin;obtain⟨i,cv,en,f1,f2,f3,f4,f5⟩:=pQ hvx hd2 0 hv go.1 hk g2;have hen:D[i]?=some en:=by simpa using f4
  have hmod:(D.modify i λe=>{e with key:=kx,val:=vy}).toList=D.toList.set i {en with key:=kx,val:=vy}:=by
   rw[Array.toList_modify];refine List.ext_getElem? λk=>?_;rw[List.getElem?_modify,List.getElem?_set];by_cases hik:i=k;.subst hik;have hlt:i<D.toList.length:=(YQ.1 f4).1;simp only[if_true,f4,hlt];simp
   .simp[hik]
  have h7:esd.Perm ((x,v)::esd.eraseIdx i):=lE f3;have h8:(esd.set i (x,y)).Perm ((x,y)::esd.eraseIdx i):=Hz f3;refine⟨D.modify i λe=>{e with key:=kx,val:=vy},cD,esd.set i (x,y),?_,by rw[hmod];exact ec.set hvx hvy g2,zR hen gs hmod,uH h7 h8 go,zf go (YF ⟨v,_,h7,h8⟩)⟩;simp only[Instr.mapUpdate,Sem.run_bind,run_underlying hu,Result.andThen_ok,Ev.fv g1 (by simp),run_checkKey hd1 hd2,run_findKey hd1 f1,Nat.zero_add,hen,Option.map_some,Option.getD_some,Instr.keyThatStays,f5,if_true,Sem.run_pure,Ev.jn g1 (by simp)]
 .have hno:∀p∈esd,p.1≠x:=λp hp e=>hin ⟨p.2,by rw[<-e];exact hp⟩;have f1:=nj hvx hd2 0 hno hk g2;have h8:(esd++[(x,y)]).Perm ((x,y)::esd):=List.perm_append_singleton _ _;refine⟨D.push {key:=kx,val:=vy,born:=cD},cD+1,esd++[(x,y)],?_,by rw[Array.toList_push];exact ec.snoc hvx hvy g2,wq gs,yJ hno h8 (YF ⟨q,n,n,hxe,hxe⟩) hk go,zf go (YD ⟨hno,h8⟩)⟩;simp only[Instr.mapUpdate,Sem.run_bind,run_underlying hu,Result.andThen_ok,Ev.fv g1 (by simp),run_checkKey hd1 hd2,run_findKey hd1 f1,Ev.jn g1 (by simp)]
theorem Bx:∀{es:List (V×V)}{p q:V×V},(es.map (·.1)).Nodup->p∈es->q∈es->p.1=q.1->p=q
 |[],_,_,_,h,_,_=>by cases h|a::es,p,q,hn,hp,hq,e=>by
  rw[List.map_cons,List.nodup_cons]at hn;rcases YN.1 hp with h1|h1
  .rcases YN.1 hq with h2|h2;.rw[h1,h2]
   .exact absurd (YW.2 ⟨q,h2,by rw[<-e,h1]⟩) hn.1
  .rcases YN.1 hq with h2|h2;.exact absurd (YW.2 ⟨p,h1,by rw[e,h2]⟩) hn.1
   .exact Bx hn.2 h1 h2 e
def AY(S:Array MapEntry)(ess:List (V×V))(seen:Array Nat)(p:V×V):Prop:=∃(i:Nat)(e:MapEntry),ess[i]?=some p/\S.toList[i]?=some e/\seen.contains e.born=true
structure W0(m:M)(w:World)(bd bs cS:Nat)(S:Array MapEntry)(esd ess:List (V×V))(seen:Array Nat)(esd':List (V×V))(D':Array MapEntry)(cD':Nat)(wr:World):Prop where
 it:wr.heap[w.heap.size]?=some (.mapIter (some bs) cS seen cS)src:wr.heap[bs]?=some (.map S cS)dst:wr.heap[bd]?=some (.map D' cD')ents:ec m esd' D'.toList
 st:ft D' cD'
 keys:cT (esd'.map (·.1))over:∀p,p∈esd'↔AY S ess seen p\/((∀q,AY S ess seen q->q.1≠p.1)/\p∈esd)frame:∀j,j<w.heap.size->j≠bd->wr.heap[j]?=w.heap[j]?size:wr.heap.size=w.heap.size+1same:xq w wr
section
variable{m:M}{w:World}{bd bs cS:Nat}{S:Array MapEntry}{esd ess:List (V×V)}
variable(hne:bd≠bs)(hS:ec m ess S.toList)(sS:ft S cS)(kS:cT (ess.map (·.1)))(hint:∀p∈ess,∃q n,p.1=V.int q n)(hkd:∀p∈ess,∀q∈esd,AX false p.1 q.1)
include hne hS sS kS hint hkd
theorem W0.start{D:Array MapEntry}{cD:Nat}(hd:w.heap[bd]?=some (.map D cD))(hs:w.heap[bs]?=some (.map S cS))(eD:ec m esd D.toList)(sD:ft D cD)(kD:cT (esd.map (·.1))):W0 m w bd bs cS S esd ess #[] esd D cD (w.alloc (.mapIter (some bs) cS #[] cS))where
 it:=World.alloc_heap_new w _;src:=(Below.heap_alloc w _ bs (YO.1 hs).1).trans hs;dst:=(Below.heap_alloc w _ bd (YO.1 hd).1).trans hd;ents:=eD;st:=sD;keys:=kD;over p:=by
  have hno:∀q,¬AY S ess #[] q:=λq⟨i,e,_,_,h⟩=>by simp at h
  exact⟨λh=>YD ⟨λq hq=>(hno q hq).elim,h⟩,λh=>h.elim (λh=>(hno p h).elim) (λh=>h.2)⟩
 frame j hj _:=Below.heap_alloc w _ j hj;size:=by simp
 same:=⟨rfl,rfl,rfl⟩
theorem W0.kd{seen:Array Nat}{esd':List (V×V)}{D':Array MapEntry}{cD':Nat}{wr:World}(h:W0 m w bd bs cS S esd ess seen esd' D' cD' wr){x:V}(hx:∃y,(x,y)∈ess):∀q∈esd',AX false x q.1:=λq hq=>by
 obtain⟨y,hy⟩:=hx;rcases(h.over q).1 hq with⟨i,e,h1,h2,h3⟩|⟨_,h2⟩
 .have hqm:q∈ess:=Yb h1;obtain⟨a,n,e1⟩:=hint _ hy;obtain⟨b,n',e2⟩:=hint _ hqm;have:=kS.2 x (YW.2 ⟨_,hy,rfl⟩) q.1 (YW.2 ⟨_,hqm,rfl⟩);simp only at e1;subst e1;rw[e2]at this⊢;rcases this with⟨k,a',b',e3,e4⟩|⟨l,a',m',b',e3,e4⟩;.cases e3;cases e4;exact YF ⟨rfl,_,_,_,rfl,rfl⟩
  .cases e3
 .exact hkd _ hy _ h2
theorem W0.round{P:Program}{t kt el:TypeId}{d:TypeDesc}(hu:P.underlying t=some (.map kt el))(hd1:P.underlying kt=some d)(hd2:IV false d){seen:Array Nat}{esd':List (V×V)}{D':Array MapEntry}{cD':Nat}{wr:World}(h:W0 m w bd bs cS S esd ess seen esd' D' cD' wr)(hbs:bs<w.heap.size)(hbd:bd<w.heap.size)(ty:TypeId):((leftOf S seen).size=0/\(Instr.next (.pointer (some ⟨w.heap.size,0,none⟩)) false ty).run P wr=.ok (.tuple #[.bool false]) wr/\Rp ess esd esd')\/∃(kx vy:Value)(w1 w2:World)(seen2:Array Nat)(esd2:List (V×V))(D2:Array MapEntry)(cD2:Nat),(Instr.next (.pointer (some ⟨w.heap.size,0,none⟩)) false ty).run P wr=.ok (.tuple #[.bool true,kx,vy]) w1/\(Instr.entry (.pointer (some ⟨w.heap.size,0,none⟩))).run P w1=.ok (.tuple #[kx,vy]) w1/\(Instr.mapUpdate t (.map (some bd)) kx vy).run P w1=.ok () w2/\W0 m w bd bs cS S esd ess seen2 esd2 D2 cD2 w2/\(leftOf S seen2).size<(leftOf S seen).size:=by
 rcases run_next_at (P:=P) wr ty w.heap.size bs cS cS seen S cS h.it h.src sS.2 (Nat.le_refl _)with⟨h0,hrun⟩|⟨e,he,w1,hal,hrun⟩
 .refine YF ⟨h0,hrun,λp=>?_⟩;have hall:=all_seen S seen h0;have hsp:∀p,AY S ess seen p↔p∈ess:=λp=>⟨λ⟨i,e,h1,_,_⟩=>Yb h1,λhp=>by obtain⟨i,hi⟩:=Wg hp;obtain⟨en,h1,_,_⟩:=hS.get hi;exact⟨i,en,hi,h1,hall en (Yb h1)⟩⟩;rw[h.over p,hsp p];refine or_congr Iff.rfl (and_congr ⟨λh1 hm=>?_,λh1 q hq e=>?_⟩ Iff.rfl);.obtain⟨q,hq,e⟩:=YW.1 hm;exact h1 q ((hsp q).2 hq) e
  .exact h1 (YW.2 ⟨q,(hsp q).1 hq,e⟩)
 .obtain⟨hem,hes⟩:=mem_left he;obtain⟨i,hi⟩:=Wg hem;have hil:i<ess.length:=by rw[<-hS.length];exact(YQ.1 hi).1
  obtain⟨en,hen,vx,vy⟩:=hS.get (i:=i) (p:=ess[i]) (YA hil);obtain rfl:e=en:=Option.some.inj (hi.symm.trans hen);have hmem:ess[i]∈ess:=List.getElem_mem hil;have hsz1:w1.heap=wr.heap:=by rcases hal with rfl|rfl<;>rfl
  have hsa1:xq wr w1:=by rcases hal with rfl|rfl<;>exact⟨rfl,rfl,rfl⟩
  have hset:=heap_set (w:=w1) (o':=.mapIter (some bs) cS (seen.push e.born) cS) (hsz1▸h.it);have hold:∀j,j≠w.heap.size->(setBlock w1 w.heap.size (.mapIter (some bs) cS (seen.push e.born) cS)).heap[j]?=wr.heap[j]?:=λj hj=>(hset.2 j hj).trans (by rw[hsz1]);have hdst1:=(hold bd (by omega)).trans h.dst;have hsrc1:=(hold bs (by omega)).trans h.src;have hkd':=h.kd hne hS sS kS hint hkd (x:=ess[i].1) ⟨ess[i].2,hmem⟩;obtain⟨D2,cD2,esd2,u1,u2,u3,u4,u5⟩:=AJ (P:=P) hu hd1 hd2 hdst1 h.ents h.st h.keys hkd' (hint _ hmem) vx vy;refine YD ⟨_,_,_,_,seen.push e.born,esd2,D2,cD2,hrun,run_entry_at _ w.heap.size bs cS seen S cS e hset.1 hsrc1 hem sS.1,u1,?_,left_shrinks S seen e he⟩;have hsz2:(setBlock w1 w.heap.size (.mapIter (some bs) cS (seen.push e.born) cS)).heap.size=w.heap.size+1:=by show(w1.heap.setIfInBounds _ _).size=_;rw[YJ4,hsz1,h.size]
  have hset2:=heap_set (w:=setBlock w1 w.heap.size (.mapIter (some bs) cS (seen.push e.born) cS)) (o':=.map D2 cD2) hdst1;have hseen:∀p,AY S ess (seen.push e.born) p↔p=ess[i]\/AY S ess seen p:=λp=>by
   constructor
   .rintro⟨j,e',h1,h2,h3⟩;rw[contains_push]at h3;rcases Bool.or_eq_true ..▸h3 with h4|h4;.exact YD ⟨j,e',h1,h2,h4⟩
    .have hb:e'.born=e.born:=by simpa using h4
     have hij:j=i:=by refine(List.getElem?_inj (l:=S.toList.map (·.born)) (by rw[List.length_map];exact(YQ.1 h2).1) sS.1).1 ?_;rw[Yq,Yq,h2,hi];exact congrArg some hb
     subst hij;rw[YA hil]at h1;exact YF (Option.some.inj h1).symm
   .rintro(rfl|⟨j,e',h1,h2,h3⟩);.exact⟨i,e,YA hil,hi,by rw[contains_push];simp⟩
    .exact⟨j,e',h1,h2,by rw[contains_push,h3];rfl⟩
  exact{
   it:=(hset2.2 _ (by omega)).trans hset.1
   src:=(hset2.2 _ (Ne.symm hne)).trans hsrc1
   dst:=hset2.1
   ents:=u2
   st:=u3
   keys:=u4
   over:=λp=>by
    rw[u5 p,h.over p,hseen p];constructor
    .rintro(rfl|⟨h1,h2|⟨h2,h3⟩⟩);.exact YF (YF rfl)
     .exact YF (YD h2)
     .refine YD ⟨λq hq=>?_,h3⟩;rcases(hseen q).1 hq with rfl|hq;.exact Ne.symm h1
      .exact h2 q hq
    .rintro((rfl|h1)|⟨h1,h2⟩);.exact YF rfl
     .by_cases hp:p.1=ess[i].1
      .have hpm:p∈ess:=by obtain⟨j,e',g1,_,_⟩:=h1;exact Yb g1
       refine YF ?_;by_cases hpe:p=ess[i];.exact hpe
       .exact absurd (Bx kS.1 hpm hmem hp) hpe
      .exact YD ⟨hp,YF h1⟩
     .exact YD ⟨Ne.symm (h1 _ ((hseen _).2 (YF rfl))),YD ⟨λq hq=>h1 q ((hseen q).2 (YD hq)),h2⟩⟩
   frame:=λj hj hjd=>(hset2.2 j hjd).trans ((hold j (by omega)).trans (h.frame j hj hjd))
   size:=by show(Array.setIfInBounds _ _ _).size=_;rw[YJ4];exact hsz2
   same:=⟨hsa1.os.trans h.same.os,hsa1.tape.trans h.same.tape,hsa1.output.trans h.same.output⟩}
end
end Go.Ev
end
