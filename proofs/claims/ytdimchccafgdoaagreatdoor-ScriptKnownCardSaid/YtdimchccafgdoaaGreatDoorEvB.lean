/- EvB: a part of the evaluator,of its logic,or of the laws' walk in it. -/
import Derived.Test.YtdimchccafgdoaaGreatDoorEvA
import Derived.Laws.BytesString
import Derived.Laws.MakeOwn
import Derived.Laws.Tables
import Derived.Laws.StructEq
set_option linter.unusedVariables false
set_option linter.unusedSimpArgs false
set_option linter.unusedSectionVars false
section
namespace Go.Ev
open Go.RowKit
section
variable {P:Program} {nt:Nat} {o:Oper} {id:Nat} {ph:Phi} {e:Env} {H:Heap} {k:K}
theorem BR_of_row {m:M} {bl:Blk} {row:List V} {c:Array Value} {t:TypeId} {fr:Nat × Nat} (h:rowOf bl=some row) (hcan:∀ len n,bl = .bytes len n→n<256 ^ len) (hR:RowR m row c fr) (hns:∀ l,bl = .cells l → ¬ (fr.1≤c.size∧c.size<fr.2):=by first | (intro _ _;simp;done) | (intro _ e;cases e)):BR P m bl (.cells c t fr):=by
 cases bl with
 | cells l=>simp only [rowOf,Option.some.injEq] at h;subst h;exact ⟨c,t,fr,rfl,hR,hns _ rfl⟩
 | bytes len n=>
  simp only [rowOf,Option.some.injEq] at h
  subst h
  exact ⟨c,t,fr,rfl,⟨hcan len n rfl,fun i y hy=>by
   obtain ⟨_,cv,t1,t2⟩:=hR.1 i (byteV y) (by rw [List.getElem?_map,hy];rfl)
   rw [t1,t2.int4.2]⟩,hR.2⟩
 | _=>simp [rowOf] at h
theorem PR.fresh {base:Nat} {w0 w w':World} {rho:Nat→Option Nat} {H':Heap} (h:PR P base w0 rho H w) {bl:Blk} (hN:NewTo H bl H') {row:List V} (hrow:rowOf bl=some row) (hcan:∀ len n,bl = .bytes len n→n<256 ^ len)
  {c:Array Value} {t:TypeId} {fr:Nat × Nat} (hR:RowR (mu rho H w) row c fr) (hs:Same w w') (hh:w'.heap=w.heap.push (.cells c t fr)) (hns:∀ l,bl = .cells l → ¬ (fr.1≤c.size∧c.size<fr.2):=by first | (intro _ _;simp;done) | (intro _ e;cases e)) :
  ∃ rho',PR P base w0 rho' H' w'∧Ext rho H w rho' H' w'∧(mu rho' H' w').b H.n w.heap.size:=by
 obtain ⟨p1,p2⟩:=h.alloc (w':=w') (o := .cells c t fr) hN.n hN.wlo hN.get hN.oth (rowOf_alive hrow).1 hs (by simp [hh]) (by simp [hh]) (fun j hj=>by rw [hh,Array.getElem?_push,if_neg (by omega)]) (BR_of_row hrow hcan hR hns)
 exact ⟨_,p1,p2,by rw [hN.n];omega,fun _=>by simp⟩
theorem RowR.exact {m:M} {row:List V} {cs:Array Value} (h:VRs m row cs.toList) (h1:∀ v ∈ row,v.one=true):RowR m row cs (0,0):=by
 refine ⟨fun i v hi => ?_,fun i _=>by simp⟩
 obtain ⟨c,h2,h3⟩:=h.get hi
 exact ⟨h1 v (List.mem_of_getElem? hi),c,by simpa using h2,h3⟩
theorem z8_ok:∀ {z:List V},z8 z=true→z=(sbytes z.length 0).map byteV
 | [],_=>rfl
 | .int 4 0 :: l,h=>by
  have h':z8 l=true:=h
  have:=z8_ok h'
  simp only [List.length_cons,sbytes,List.map_cons,byteV]
  rw [← this]
  rfl
theorem zeroT_ok {t:TypeId} {z:List V} (h:zeroT P t=some z):∃ i zv,P.info? t=some i∧i.zero=some zv∧(∀ m,VRs m z zv.cells.toList) ∧ ∀ v ∈ z,v.one=true:=by
 unfold zeroT at h
 split at h
 ·rename_i i hi
  split at h
  ·rename_i zv hz
   exact ⟨i,zv,hi,hz,fun m=>(consts_ok h).1,(consts_ok (mu:=⟨fun _ _=>True,fun _ _=>True⟩) h).2⟩
  ·cases h
 ·cases h
theorem s_alloc {t:TypeId} (hop:o.op = .alloc t) (h:evOp (compOp P nt o) id ph e H k=1):Good P nt o e H k:=by
 simp only [compOp,hop] at h
 have hnd:∀ c,o.op ≠ .defer c:=by simp [hop]
 have key:∀ (z:List V) (bl:Blk),zeroT P t=some z→rowOf bl=some z→(∀ len n,bl = .bytes len n→n<256 ^ len)→(hNew H bl fun n H=>k (.ptr n 0) H)=1→Good P nt o e H k:=by
  intro z bl hz hrow hcan h'
  obtain ⟨H',h1,h2⟩:=hNew_ok h'
  obtain ⟨i,zv,hi,hzv,hvr,hone⟩:=zeroT_ok hz
  refine ⟨_,_,OpS.of_run hnd fun base w0 rho w a hp ho => ?_,h1⟩
  obtain ⟨rho',p1,p2,p3⟩:=hp.fresh (w':=w.alloc (.cells zv.cells t)) (t:=t) h2 hrow hcan (RowR.exact (hvr _) hone) ⟨rfl,rfl,rfl⟩ rfl
  refine ⟨.pointer (some ⟨w.heap.size,0,none⟩),w.alloc (.cells zv.cells t), ?_,rho',by simp only [VR];exact ⟨_,rfl,p3⟩,p1,p2⟩
  simp [execOp,hop,Instr.alloc,zeroValue,typeInfo,hi,hzv,newVar,newRow]
 split at h
 ·rename_i z n el hz hu
  split at h
  ·rename_i hc
   simp only [Bool.and_eq_true,beq_iff_eq] at hc
   have hzz:=z8_ok hc.1
   rw [hc.2] at hzz
   exact key z (.bytes n 0) hz (by rw [hzz];rfl) (fun len m e=>by cases e;exact Nat.pow_pos (by decide)) h
  ·exact key z (.cells z) hz rfl (fun len m e=>by cases e) h
 ·exact key _ (.cells _) (by assumption) rfl (fun len m e=>by cases e) h
 ·exact (no_ne h).elim
theorem vCells_vr {m:M} {x:V} {c:Value} {f:List V→R} (hv:VR m x c) (h:vCells id x f=1):∃ l,f l=1∧VRs m l c.cells.toList∧((∃ q,x = .agg q∧l=q)∨(l=[x]∧x.one=true)):=by
 rcases vCells_ok h with ⟨l,rfl,h1⟩ | ⟨h1,h2⟩
 ·simp only [VR] at hv
  obtain ⟨cs,rfl,hr⟩:=hv
  exact ⟨l,h1,hr,Or.inl ⟨l,rfl,rfl⟩⟩
 ·refine ⟨[x],h2, ?_,Or.inr ⟨rfl,h1⟩⟩
  have:=hv.one h1
  have hc:c.cells = #[c]:=by
   cases c <;> first | rfl | exact absurd rfl (this.1 _) | exact absurd rfl (this.2 _)
  rw [hc]
  simp only [VRs]
  exact ⟨c,[],rfl,hv,rfl⟩
theorem vCells_pure {x:V} {f:List V→R} (h:vCells id x f=1):∃ l,f l=1 ∧ ∀ (m:M) (c:Value),VR m x c→VRs m l c.cells.toList:=by
 rcases vCells_ok h with ⟨l,rfl,h1⟩ | ⟨h1,h2⟩
 ·exact ⟨l,h1,fun m c hv=>by simp only [VR] at hv;obtain ⟨cs,rfl,hr⟩:=hv;exact hr⟩
 ·refine ⟨[x],h2,fun m c hv => ?_⟩
  have:=hv.one h1
  have hc:c.cells = #[c]:=by
   cases c <;> first | rfl | exact absurd rfl (this.1 _) | exact absurd rfl (this.2 _)
  rw [hc]
  simp only [VRs]
  exact ⟨c,[],rfl,hv,rfl⟩
theorem s_box {t:TypeId} {x:Operand} (hop:o.op = .box t x) (h:evOp (compOp P nt o) id ph e H k=1):Good P nt o e H k:=by
 simp only [compOp,hop] at h
 have mem:x ∈ o.op.operands:=by simp [hop,Op.operands]
 have hnd:∀ c,o.op ≠ .defer c:=by simp [hop]
 split at h
 ·rename_i x' hx
  have h':eBox x' id ph e H k=1:=h
  unfold eBox at h'
  rw [getA_eq] at h'
  obtain ⟨l,h1,h2⟩:=vCells_pure h'
  obtain ⟨h3,h4⟩:=allOne_ok h1
  obtain ⟨H',h5,h6⟩:=hNew_ok h4
  refine ⟨_,_,OpS.of_run hnd fun base w0 rho w a hp ho => ?_,h5⟩
  obtain ⟨rho',p1,p2,p3⟩:=hp.fresh (w':=w.alloc (.cells (a.eval x).cells t)) (t:=t) h6 rfl (fun len m e=>by cases e) (RowR.exact (h2 _ _ (ho x mem x' hx)) h3) ⟨rfl,rfl,rfl⟩ rfl
  exact ⟨.pointer (some ⟨w.heap.size,0,none⟩),w.alloc (.cells (a.eval x).cells t),by simp [execOp,hop,Instr.box,newVar,newRow],rho',by simp only [VR];exact ⟨_,rfl,p3⟩,p1,p2⟩
 ·exact (no_ne h).elim
theorem run_isAgg {t:TypeId} {b:Bool} (h:aggT P t=some b) (w:World):(isAgg t).run P w = .ok b w:=by
 unfold aggT at h
 split at h
 ·rename_i hu;cases h;simp [isAgg,run_underlying hu]
 ·rename_i hu;cases h;simp [isAgg,run_underlying hu]
 ·rename_i d h1 h2 hu
  cases h
  simp only [isAgg,Sem.run_bind,run_underlying hu,Result.andThen_ok]
  cases d <;> first | rfl | exact absurd rfl (h1 _) | exact absurd rfl (h2 _ _)
 ·cases h
theorem s_load {t:TypeId} {x:Operand} (hop:o.op = .load t x) (h:evOp (compOp P nt o) id ph e H k=1):Good P nt o e H k:=by
 simp only [compOp,hop] at h
 have mem:x ∈ o.op.operands:=by simp [hop,Op.operands]
 have hnd:∀ c,o.op ≠ .defer c:=by simp [hop]
 split at h
 ·rename_i x' n hx hag hsz
  have h':eLoadA n x' id ph e H k=1:=h
  unfold eLoadA at h'
  rw [getA_eq] at h'
  obtain ⟨b,off,hb,h1⟩:=vPtr_ok h'
  obtain ⟨row,h2,h3,h30,h4⟩:=rdN_ok h1
  refine ⟨_,_,OpS.of_run hnd fun base w0 rho w a hp ho => ?_,h4⟩
  have vx:=ho x mem x' hx
  rw [hb] at vx
  simp only [VR] at vx
  obtain ⟨c,hc,hm⟩:=vx
  obtain ⟨cs,g1,g2,g3,_⟩:=hp.rcells (hp.rho_rd hm h2) h2 h3 h30
  exact ⟨.agg cs.toArray,w,by simp [execOp,hop,hc,Instr.loadAt,Instr.sureAddr,loadVar,run_isAgg hag,run_sizeOf' hsz,g1],rho,by simp only [VR];exact ⟨_,rfl,g2⟩,hp,Ext.refl hp.lt⟩
 ·rename_i _ x' hx hag
  have h':eLoad1 x' id ph e H k=1:=h
  unfold eLoad1 at h'
  rw [getA_eq] at h'
  obtain ⟨b,off,hb,h1⟩:=vPtr_ok h'
  obtain ⟨row,v,h2,h3,h30,h4⟩:=rdC_ok h1
  refine ⟨_,_,OpS.of_run hnd fun base w0 rho w a hp ho => ?_,h4⟩
  have vx:=ho x mem x' hx
  rw [hb] at vx
  simp only [VR] at vx
  obtain ⟨c,hc,hm⟩:=vx
  obtain ⟨cv,g1,g2,_⟩:=hp.rcell (hp.rho_rd hm h2) h2 h3 h30
  exact ⟨cv,w,by simp [execOp,hop,hc,Instr.loadAt,Instr.sureAddr,loadVar,run_isAgg hag,g1],rho,g2,hp,Ext.refl hp.lt⟩
 ·exact (no_ne h).elim
end
end Go.Ev
end
section
namespace Go.Ev
open Go.RowKit
section
variable {P:Program} {nt:Nat} {o:Oper} {id:Nat} {ph:Phi} {e:Env} {H:Heap} {k:K}
theorem storeN_pure {b off:Nat} {m:List V} {f:Heap→R} (h:storeN id H b off m f=1):∃ H',f H'=1 ∧ ∀ {base:Nat} {w0 w:World} {rho:Nat→Option Nat} {c:Nat} {ms:List Value},PR P base w0 rho H w→(mu rho H w).b b c→(∀ v ∈ m,v.one=true)→VRs (mu rho H w) m ms →
  ∃ w',(storeCells ⟨c,off,none⟩ ms 0).run P w = .ok () w'∧PR P base w0 rho H' w'∧Ext rho H w rho H' w':=by
 have h0:=h
 unfold storeN at h
 rw [hGet_eq] at h
 rcases bOn_ok h with ⟨l,hb,h2⟩ | ⟨len,x,hb,h2⟩
 ·obtain ⟨_,h2⟩:=allOne_ok h2
  obtain ⟨h3,h4⟩:=setAt_ok h2
  obtain ⟨H',h5,h6⟩:=hSet_ok h4
  refine ⟨H',h5,fun {base w0 w rho c ms} hp hm hone hv => ?_⟩
  have hms:∀ u ∈ ms,u.oneCell'=true:=vrs_one hv hone
  have hrow:rowOf (H.get b)=some l:=by rw [hb];rfl
  have hr:=hp.rho_of hm hrow
  obtain ⟨cs,el,fr,h7,h8⟩:=hp.row hr hrow
  have hle:=h8.le
  obtain ⟨w',cur',g1,g2,g3,g4,g5,g6,g7⟩:=run_storeCells (P:=P) (o:=off) ms 0 cs w h7 (by rw [hv.length];omega) hms h8.2
  obtain ⟨p1,p2⟩:=hp.write (H':=H') (w':=w') hr (by rw [hb];intro e;cases e) h6.n h6.wlo h6.wb h6.get h6.oth trivial g7 g6 g2 g5 ⟨cur',el,fr,rfl,h8.splice hv hone h3 g3 g4,by rw [g3];exact hp.nstr hr hb h7⟩ (fun cs2 e2 fr2 h=>by rw [h7] at h;cases h;exact ⟨cur',el,fr,rfl,g3⟩) (fun r h=>by rw [h7] at h;cases h)
  exact ⟨w',g1,p1,p2⟩
 ·obtain ⟨mx,h3,h30,h4⟩:=packB_ok h2
  obtain ⟨h5,h6⟩:=ifB_no h3
  rw [forceN_eq] at h6
  obtain ⟨H',h7,h8⟩:=hSet_ok h6
  refine ⟨H',h7,fun {base w0 w rho c ms} hp hm hone hv => ?_⟩
  have hms:∀ u ∈ ms,u.oneCell'=true:=vrs_one hv hone
  obtain ⟨h9,h10⟩:=h4 hv.small
  have hle:off+m.length≤len:=ble_of h5
  have hrow:rowOf (H.get b)=some ((sbytes len x).map byteV):=by rw [hb];rfl
  have hr:=hp.rho_of hm hrow
  obtain ⟨o,q1,q2⟩:=hp.blk b c hr
  rw [hb] at q2
  obtain ⟨_,_,_,_,⟨hx,_⟩,_⟩:=q2
  obtain ⟨cs,el,fr,g7,g8⟩:=hp.row hr hrow
  have hle':=g8.le
  simp only [List.length_map,sbytes_length] at hle'
  obtain ⟨w',cur',g1,g2,g3,g4,g5,g6,g9⟩:=run_storeCells (P:=P) (o:=off) ms 0 cs w g7 (by rw [hv.length];omega) hms g8.2
  have hR:=g8.splice hv hone (by simpa [sbytes_length] using hle) g3 g4
  obtain ⟨s1,s2⟩:=sbytes_splice (off:=off) hx h10 hle
  have hnew:((sbytes len x).map byteV).take off ++ (m ++ ((sbytes len x).map byteV).drop (off+m.length))=(sbytes len (Nat.add (Nat.mod x (Nat.pow 256 off)) (Nat.shiftLeft (Nat.add mx (Nat.shiftLeft (Nat.shiftRight x (Nat.mul 8 (Nat.add off m.length))) (Nat.mul 8 m.length))) (Nat.mul 8 off)))).map byteV:=by
   rw [s1]
   simp only [List.map_append,List.map_take,List.map_drop]
   rw [← h9]
  rw [hnew] at hR
  obtain ⟨p1,p2⟩:=hp.write (H':=H') (w':=w') hr (by rw [hb];intro e;cases e) h8.n h8.wlo h8.wb h8.get h8.oth trivial g9 g6 g2 g5
   ⟨cur',el,fr,rfl,⟨s2,fun i y hy=>by
    obtain ⟨_,cv,t1,t2⟩:=hR.1 i (byteV y) (by rw [List.getElem?_map,hy];rfl)
    rw [t1,t2.int4.2]⟩,hR.2⟩ (fun cs2 e2 fr2 h=>by rw [g7] at h;cases h;exact ⟨cur',el,fr,rfl,g3⟩) (fun r h=>by rw [g7] at h;cases h)
  exact ⟨w',g1,p1,p2⟩
theorem s_store {t:TypeId} {x y:Operand} (hop:o.op = .store t x y) (h:evOp (compOp P nt o) id ph e H k=1):Good P nt o e H k:=by
 simp only [compOp,hop] at h
 have mem:x ∈ o.op.operands∧y ∈ o.op.operands:=by simp [hop,Op.operands]
 have hnd:∀ c,o.op ≠ .defer c:=by simp [hop]
 split at h
 ·rename_i x' y' n hx hy hag hsz
  have h':eStoreA n x' y' id ph e H k=1:=h
  unfold eStoreA at h'
  rw [getA_eq] at h'
  obtain ⟨b,off,hb,h1⟩:=vPtr_ok h'
  rw [getA_eq] at h1
  obtain ⟨l,hl,h2⟩:=vAgg_ok h1
  obtain ⟨h3,h4⟩:=ifB_no h2
  have hlen:lenL l=n:=beq_of h3
  rw [lenL_eq] at hlen
  obtain ⟨H',h5,h6⟩:=storeN_pure (P:=P) h4
  refine ⟨_,_,OpS.of_skip hnd fun base w0 rho w a hp ho => ?_,h5⟩
  have vx:=ho x mem.1 x' hx
  rw [hb] at vx
  simp only [VR] at vx
  obtain ⟨c,hc,hm⟩:=vx
  have vy:=ho y mem.2 y' hy
  rw [hl] at vy
  simp only [VR] at vy
  obtain ⟨cs,hcs,hr⟩:=vy
  have hone:∀ v ∈ l,v.one=true:=storeN_one h4
  obtain ⟨w',g1,g2,g3⟩:=h6 hp hm hone hr
  refine ⟨w', ?_,rho,g2,g3⟩
  have hcl:cs.size=n:=by have:=hr.length;simp at this;omega
  simp [execOp,hop,hc,hcs,Instr.storeAt,Instr.sureAddr,storeVar,Value.cells,run_sizeOf' hsz,hcl,g1]
 ·rename_i x' y' hx hy hag hsz
  have h':eStore1 x' y' id ph e H k=1:=h
  unfold eStore1 at h'
  rw [getA_eq] at h'
  obtain ⟨b,off,hb,h1⟩:=vPtr_ok h'
  rw [getA_eq] at h1
  obtain ⟨hone1,h4⟩:=isOne_ok h1
  obtain ⟨H',h5,h6⟩:=storeN_pure (P:=P) h4
  refine ⟨_,_,OpS.of_skip hnd fun base w0 rho w a hp ho => ?_,h5⟩
  have vx:=ho x mem.1 x' hx
  rw [hb] at vx
  simp only [VR] at vx
  obtain ⟨c,hc,hm⟩:=vx
  have vy:=ho y mem.2 y' hy
  have hcl:(a.eval y).cells = #[a.eval y]:=by
   have:=vy.one hone1
   generalize a.eval y=q at this
   cases q <;> first | rfl | exact absurd rfl (this.1 _) | exact absurd rfl (this.2 _)
  obtain ⟨w',g1,g2,g3⟩:=h6 (ms:=[a.eval y]) hp hm (fun v hv=>by rw [List.mem_singleton.1 hv];exact hone1) (by simp only [VRs];exact ⟨_,[],rfl,vy,rfl⟩)
  refine ⟨w', ?_,rho,g2,g3⟩
  simp [execOp,hop,hc,Instr.storeAt,Instr.sureAddr,storeVar,hcl,run_sizeOf' hsz,g1]
 ·exact (no_ne h).elim
end
end Go.Ev
end
section
namespace Go.Ev
open Go.RowKit
section
variable {P:Program} {nt:Nat} {o:Oper} {id:Nat} {ph:Phi} {e:Env} {H:Heap} {k:K}
theorem fold_set:∀ (l:List Value) (j:Nat) (off:Nat) (cells:Array Value),off+j+l.length≤cells.size→((l.zipIdx j).foldl (fun cs (p:Value × Nat)=>cs.setIfInBounds (off+p.2) p.1) cells).size=cells.size ∧
  ∀ i:Nat,((l.zipIdx j).foldl (fun cs (p:Value × Nat)=>cs.setIfInBounds (off+p.2) p.1) cells)[i]? = if off+j≤i∧i<off+j+l.length then l[i-(off+j)]? else cells[i]?
 | [],j,off,cells,_=>⟨rfl,fun i=>by rw [if_neg (by simp)];rfl⟩
 | v :: l,j,off,cells,h=>by
  simp only [List.length_cons] at h
  obtain ⟨h1,h2⟩:=fold_set l (j+1) off (cells.setIfInBounds (off+j) v) (by simp;omega)
  refine ⟨by simpa [List.zipIdx_cons] using h1,fun i => ?_⟩
  simp only [List.zipIdx_cons,List.foldl_cons,List.length_cons]
  rw [h2]
  by_cases hi:i=off+j
  ·subst hi
   rw [if_neg (by omega),if_pos (by omega)]
   have hlt:off+j<cells.size:=by omega
   simp [hlt]
  ·by_cases hi2:off+(j+1)≤i∧i<off+(j+1)+l.length
   ·rw [if_pos hi2,if_pos (by omega),show i-(off+j)=(i-(off+(j+1)))+1 by omega]
    simp
   ·rw [if_neg hi2,if_neg (by omega),Array.getElem?_setIfInBounds_ne (fun e=>hi e.symm)]
theorem vrs_splice {m:M} {z l:List V} {cs cs':Array Value} {vs:List Value} {off:Nat} (hz:VRs m z cs.toList) (hl:VRs m l vs) (hle:off+l.length≤z.length) (hsz:cs'.size=cs.size)
  (hg:∀ i:Nat,cs'[i]? = if off+0≤i∧i<off+0+vs.length then vs[i-(off+0)]? else cs[i]?):VRs m (z.take off ++ (l ++ z.drop (off+l.length))) cs'.toList:=by
 have e1:=hz.length
 have e2:=hl.length
 simp at e1
 refine VRs.of_get (by simp;omega) fun i v c h1 h2 => ?_
 rw [Array.getElem?_toList,hg] at h2
 by_cases hi1:i<off
 ·rw [List.getElem?_append_left (by simp;omega),List.getElem?_take,if_pos hi1] at h1
  rw [if_neg (by omega)] at h2
  obtain ⟨c',h3,h4⟩:=hz.get h1
  rw [Array.getElem?_toList,h2] at h3
  cases h3
  exact h4
 ·rw [List.getElem?_append_right (by simp;omega),show (z.take off).length=off by simp;omega] at h1
  by_cases hi2:i-off<l.length
  ·rw [List.getElem?_append_left hi2] at h1
   rw [if_pos (by omega)] at h2
   obtain ⟨c',h3,h4⟩:=hl.get h1
   simp only [Nat.add_zero] at h2
   rw [h2] at h3
   cases h3
   exact h4
  ·rw [List.getElem?_append_right (by omega),List.getElem?_drop,show off+l.length+(i-off-l.length)=i by omega] at h1
   rw [if_neg (by omega)] at h2
   obtain ⟨c',h3,h4⟩:=hz.get h1
   rw [Array.getElem?_toList,h2] at h3
   cases h3
   exact h4
inductive PartsOK (m:M) (e:Env) (place:Nat→Option (Nat × Nat)):List (Nat × Nat × Arg)→List (Nat × Value)→Prop
 | nil:PartsOK m e place [] []
 | cons {off size i:Nat} {a:Arg} {v:Value} {l r} (h1:place i=some (off,size)) (h2:VR m (pgetA a e) v) (h:PartsOK m e place l r):PartsOK m e place ((off,size,a) :: l) ((i,v) :: r)
theorem fillL_ok:∀ {parts:List (Nat × Nat × Arg)} {z:List V} {f:List V→R},fillL id e parts z f=1 → ∃ z',f z'=1∧z'.length=z.length ∧ ∀ (m:M) (place:Nat→Option (Nat × Nat)) (cp:List (Nat × Value)) (cs:Array Value),PartsOK m e place parts cp→VRs m z cs.toList →
  ∃ cs',Instr.fill place cs cp=some cs'∧VRs m z' cs'.toList
 | [],z,f,h=>⟨z,h,rfl,fun m place cp cs hp hz=>by cases hp;exact ⟨cs,rfl,hz⟩⟩
 | (off,size,a) :: parts,z,f,h=>by
  have h':getA a e (fun v=>vCells id v fun l=>ifB (Nat.beq (lenL l) size) (setAt id l z off fun z'=>fillL id e parts z' f) (no _))=1:=h
  rw [getA_eq] at h'
  obtain ⟨l,h1,h2⟩:=vCells_pure h'
  obtain ⟨h3,h4⟩:=ifB_no h1
  have hlen:lenL l=size:=beq_of h3
  rw [lenL_eq] at hlen
  obtain ⟨h5,h6⟩:=setAt_ok h4
  obtain ⟨z',h7,h70,h8⟩:=fillL_ok h6
  refine ⟨z',h7,h70.trans (by simp;omega),fun m place cp cs hp hz => ?_⟩
  cases hp with
  | cons p1 p2 p3=>
   rename_i i v r
   have hvr:=h2 m v p2
   have hl2:=hvr.length
   have hz2:=hz.length
   simp at hl2 hz2
   obtain ⟨g1,g2⟩:=fold_set v.cells.toList 0 off cs (by simp;omega)
   obtain ⟨cs',q1,q2⟩:=h8 m place r _ p3 (vrs_splice hz hvr h5 g1 (by simpa using g2))
   refine ⟨cs', ?_,q2⟩
   simp only [Instr.fill,p1]
   rw [if_neg (by simp;omega)]
   rw [← q1]
   congr 1
   rw [← Array.foldl_toList,Array.toList_zipIdx]
theorem compParts_ok {m:M} {ac:Act}:∀ {l:List (Nat × Operand)} {r:List (Nat × Arg)},compParts nt l=some r→(∀ p ∈ l,∀ ar,compArg nt p.2=some ar→VR m (pgetA ar e) (ac.eval p.2)) →
  r.length=l.length ∧ ∀ i (h1:i<l.length) (h2:i<r.length),r[i].1=l[i].1∧VR m (pgetA r[i].2 e) (ac.eval l[i].2)
 | [],r,h,_=>by simp only [compParts,Option.some.injEq] at h;subst h;exact ⟨rfl,fun i h1=>absurd h1 (by simp)⟩
 | (j,x) :: l,r,h,ho=>by
  simp only [compParts] at h
  split at h
  ·rename_i a r' h1 h2
   cases h
   obtain ⟨h3,h4⟩:=compParts_ok h2 fun p hp=>ho p (List.mem_cons_of_mem _ hp)
   refine ⟨by simp [h3],fun i hi1 hi2 => ?_⟩
   cases i with
   | zero=>exact ⟨rfl,ho (j,x) (List.mem_cons_self ..) a h1⟩
   | succ i=>simpa using h4 i (by simpa using hi1) (by simpa using hi2)
  ·cases h
theorem parts_elem {m:M} {ac:Act} {s:Nat}:∀ {l:List (Nat × Operand)} {r:List (Nat × Arg)},compParts nt l=some r→(∀ p ∈ l,∀ ar,compArg nt p.2=some ar→VR m (pgetA ar e) (ac.eval p.2)) →
  PartsOK m e (fun i=>some (i * s,s)) (elemParts s r) (l.map fun p=>(p.1,ac.eval p.2))
 | [],r,h,_=>by simp only [compParts,Option.some.injEq] at h;subst h;exact .nil
 | (j,x) :: l,r,h,ho=>by
  simp only [compParts] at h
  split at h
  ·rename_i a r' h1 h2
   cases h
   exact .cons rfl (ho (j,x) (List.mem_cons_self ..) a h1) (parts_elem h2 fun p hp=>ho p (List.mem_cons_of_mem _ hp))
  ·cases h
theorem parts_field {m:M} {ac:Act} {pl:List (Nat × Nat)}:∀ {l:List (Nat × Operand)} {r:List (Nat × Arg)} {q:List (Nat × Nat × Arg)},compParts nt l=some r→fieldParts pl r=some q→(∀ p ∈ l,∀ ar,compArg nt p.2=some ar→VR m (pgetA ar e) (ac.eval p.2)) →
  PartsOK m e (pl.toArray[·]?) q (l.map fun p=>(p.1,ac.eval p.2))
 | [],r,q,h,hq,_=>by simp only [compParts,Option.some.injEq] at h;subst h;simp only [fieldParts,Option.some.injEq] at hq;subst hq;exact .nil
 | (j,x) :: l,r,q,h,hq,ho=>by
  simp only [compParts] at h
  split at h
  ·rename_i a r' h1 h2
   cases h
   simp only [fieldParts] at hq
   split at hq
   ·rename_i p q' h3 h4
    cases hq
    exact .cons (by simpa using h3) (ho (j,x) (List.mem_cons_self ..) a h1) (parts_field h2 h4 fun p hp=>ho p (List.mem_cons_of_mem _ hp))
   ·cases hq
  ·cases h
theorem s_build {t:TypeId} {parts:Array (Nat × Operand)} (hop:o.op = .build t parts) (h:evOp (compOp P nt o) id ph e H k=1):Good P nt o e H k:=by
 simp only [compOp,hop] at h
 have hnd:∀ c,o.op ≠ .defer c:=by simp [hop]
 have hmem:∀ p ∈ parts.toList,p.2 ∈ o.op.operands:=fun p hp=>by simp [hop,Op.operands];exact ⟨p.1,by simpa using hp⟩
 have key:∀ (z:List V) (q:List (Nat × Nat × Arg)) (place:Nat→Option (Nat × Nat)),zeroT P t=some z→(∀ (m:M) (ac:Act),OR m nt e ac o→PartsOK m e place q (parts.toList.map fun p=>(p.1,ac.eval p.2))) →
   (∀ (i:TypeInfo) (zv:Value),P.info? t=some i→i.zero=some zv → ∀ l,P.built t l=Instr.fill place zv.cells l)→eBuild z q id ph e H k=1→Good P nt o e H k:=by
  intro z q place hz hpo hb h'
  obtain ⟨z',h1,_,h2⟩:=fillL_ok h'
  obtain ⟨i,zv,hi,hzv,hvr,_⟩:=zeroT_ok hz
  refine ⟨_,_,OpS.of_pure hnd fun m w ac ho => ?_,h1⟩
  obtain ⟨cs',h3,h4⟩:=h2 m place _ _ (hpo m ac ho) (hvr m)
  refine ⟨.agg cs', ?_,by simp only [VR];exact ⟨cs',rfl,h4⟩⟩
  have:=run_build (P:=P) w t (parts.map fun (i,x)=>(i,ac.eval x)) cs' (by rw [hb i zv hi hzv];simpa using h3)
  simp [execOp,hop,this]
 split at h
 ·rename_i z ps fs hz hps hu
  split at h
  ·rename_i pl hpl
   split at h
   ·rename_i q hq
    exact key z q (pl.toArray[·]?) hz (fun m ac ho=>parts_field hps hq fun p hp=>ho p.2 (hmem p hp)) (fun i zv hi hzv l=>by
     unfold placesT at hpl
     simp [Program.built,hi,hu,hzv,hpl]) h
   ·exact (no_ne h).elim
  ·exact (no_ne h).elim
 ·rename_i z ps n el hz hps hu
  split at h
  ·rename_i s hs
   simp only [szT,Option.map_eq_some_iff] at hs
   obtain ⟨ti,hti,hsz⟩:=hs
   exact key z _ (fun i=>some (i * s,s)) hz (fun m ac ho=>parts_elem hps fun p hp=>ho p.2 (hmem p hp)) (fun i zv hi hzv l=>by simp [Program.built,hi,hu,hzv,hti,hsz]) h
  ·exact (no_ne h).elim
 ·exact (no_ne h).elim
theorem replL_get {z:List V}:∀ {c i:Nat} {v:V},(replL c z)[i]? = some v→z[i % z.length]? = some v∧i<c * z.length
 | 0,i,v,h=>by simp [replL] at h
 | c+1,i,v,h=>by
  simp only [replL] at h
  by_cases hi:i<z.length
  ·rw [List.getElem?_append_left hi] at h
   exact ⟨by rw [Nat.mod_eq_of_lt hi];exact h,by rw [Nat.succ_mul];omega⟩
  ·rw [List.getElem?_append_right (by omega)] at h
   obtain ⟨h1,h2⟩:=replL_get h
   refine ⟨?_,by rw [Nat.succ_mul];omega⟩
   rw [Nat.mod_eq_sub_mod (by omega)]
   exact h1
theorem replL_length {z:List V}:∀ c:Nat,(replL c z).length=c * z.length
 | 0=>by simp [replL]
 | c+1=>by simp [replL,replL_length c,Nat.succ_mul];omega
theorem made_vrs {m:M} {z:List V} {zc:Array Value} (hz:VRs m z zc.toList) (c:Nat):VRs m (replL c z) (madeCells zc (c * z.length)).toList:=by
 have hl:=hz.length
 simp at hl
 refine VRs.of_get (by simp [replL_length,size_madeCells]) fun i v cv h1 h2 => ?_
 obtain ⟨h3,h4⟩:=replL_get h1
 obtain ⟨c',h5,h6⟩:=hz.get h3
 rw [Array.getElem?_toList] at h2 h5
 have hlt:i % z.length<zc.size:=by
  rcases Nat.lt_or_ge (i % z.length) zc.size with h | h
  ·exact h
  ·simp [Array.getElem?_eq_none h] at h5
 have h7:(madeCells zc (c * z.length))[i]? = some (zc[i % zc.size]!):=by
  simp [madeCells,h4]
 rw [h7] at h2
 cases h2
 rw [hl,getElem!_pos zc (i % z.length) hlt]
 rw [Array.getElem?_eq_getElem hlt] at h5
 cases h5
 exact h6
theorem s_buildSlice {t:TypeId} {len:Nat} {parts:Array (Nat × Operand)} (hop:o.op = .buildSlice t len parts) (h:evOp (compOp P nt o) id ph e H k=1):Good P nt o e H k:=by
 simp only [compOp,hop] at h
 have hnd:∀ c,o.op ≠ .defer c:=by simp [hop]
 have hmem:∀ p ∈ parts.toList,p.2 ∈ o.op.operands:=fun p hp=>by simp [hop,Op.operands];exact ⟨p.1,by simpa using hp⟩
 split at h
 ·rename_i ps el hps hu
  split at h
  ·rename_i s z hs hz
   split at h
   ·rename_i hc
    simp only [Bool.and_eq_true,beq_iff_eq,decide_eq_true_eq] at hc
    obtain ⟨hc1,hc2⟩:=hc
    have h':eBslice (isU8 P el && decide (0<len)) len (replL len z) (elemParts s ps) id ph e H k=1:=h
    unfold eBslice at h'
    obtain ⟨z',h1,hzl,h2⟩:=fillL_ok h'
    obtain ⟨i,zv,hi,hzv,hvr,hone⟩:=zeroT_ok hz
    simp only [szT,Option.map_eq_some_iff] at hs
    obtain ⟨ti,hti,hsz⟩:=hs
    rw [hi] at hti
    cases hti
    have hrun:∀ (w:World) (cs':Array Value) (ac:Act),Instr.fill (fun i=>some (i * s,s)) (madeCells zv.cells (len * s)) (parts.toList.map fun p=>(p.1,ac.eval p.2))=some cs' →
      (execOp ac.eval o).run P w = .ok (.value (.slice (some ⟨w.heap.size,0,none⟩) len len)) (w.alloc (.cells cs' el)):=by
     intro w cs' ac hf
     have hsz':(sizeOf el).run P w = .ok s w:=by simp [sizeOf,typeInfo,hi,hsz]
     have hzr:(zeroValue el).run P w = .ok zv w:=by simp [zeroValue,typeInfo,hi,hzv]
     have hbig:¬ (2 ^ 24<len * s):=by omega
     by_cases h0:len * s=0
     ·have hm0:madeCells zv.cells (len * s) = #[]:=by rw [h0];simp [madeCells,Array.range_zero']
      rw [hm0] at hf
      simp [execOp,hop,Instr.buildSlice,run_underlying hu,hsz',h0,hf,newRow,Array.range_zero']
     ·have hf':Instr.fill (fun i=>some (i * s,s)) ((Array.range (len * s)).map (fun x=>zv.cells[x % zv.cells.size]!)) (parts.toList.map fun p=>(p.1,ac.eval p.2))=some cs':=hf
      simp [execOp,hop,Instr.buildSlice,run_underlying hu,hsz',hzr,hbig,h0,hf',newRow]
    have fin:∀ (bl:Blk) (H':Heap),NewTo H bl H'→k (.slice H.n 0 len (Nat.succ len) 0) H'=1→(∀ m,VRs m z' []→False)∨True→(∀ (m:M) (cs':Array Value),VRs m z' cs'.toList→rowOf bl=some z'∧(∀ ln n,bl = .bytes ln n→n<256 ^ ln) ∧ ∀ v ∈ z',v.one=true)→Good P nt o e H k:=by
     intro bl H' hN hk _ hrow
     refine ⟨_,_,OpS.of_run hnd fun base w0 rho w a hp ho => ?_,hk⟩
     have hmv:=made_vrs (hvr (mu rho H w)) len
     rw [hc2] at hmv
     obtain ⟨cs',h3,h4⟩:=h2 (mu rho H w) (fun i=>some (i * s,s)) _ _ (parts_elem hps fun p hp'=>ho p.2 (hmem p hp')) hmv
     obtain ⟨r1,r2,r3⟩:=hrow _ cs' h4
     obtain ⟨rho',p1,p2,p3⟩:=hp.fresh (w':=w.alloc (.cells cs' el)) (t:=el) hN r1 r2 (RowR.exact h4 r3) ⟨rfl,rfl,rfl⟩ rfl
     exact ⟨_,_,hrun w cs' a h3,rho',by simp only [VR];exact ⟨_,_,_,_,rfl,p3,Nat.le_refl _,⟨fun q hq=>by injection hq,fun h=>absurd h (by omega)⟩,Or.inl ⟨rfl,rfl⟩⟩,p1,p2⟩
    rcases ifB_or h1 with ⟨h3,h4⟩ | ⟨h3,h4⟩
    ·obtain ⟨n,h5,h6,h7⟩:=packB_ok h4
     obtain ⟨H',h8,h9⟩:=hNew_ok h5
     refine fin _ H' h9 h8 (Or.inr trivial) fun m cs' hm => ?_
     obtain ⟨g1,g2⟩:=h7 hm.small
     exact ⟨by simp only [rowOf];rw [← g1],fun ln n' e=>by cases e;exact g2,fun v hv=>by obtain ⟨x,rfl⟩:=h6 v hv;rfl⟩
    ·obtain ⟨h5,h6⟩:=allOne_ok h4
     obtain ⟨H',h8,h9⟩:=hNew_ok h6
     exact fin _ H' h9 h8 (Or.inr trivial) fun m cs' hm=>⟨rfl,fun ln n' e=>(by cases e),h5⟩
   ·exact (no_ne h).elim
  ·exact (no_ne h).elim
 ·exact (no_ne h).elim
theorem s_makeSlice {t:TypeId} {l c:Operand} (hop:o.op = .makeSlice t l c) (h:evOp (compOp P nt o) id ph e H k=1):Good P nt o e H k:=by
 simp only [compOp,hop] at h
 have hnd:∀ c,o.op ≠ .defer c:=by simp [hop]
 have mem:l ∈ o.op.operands∧c ∈ o.op.operands:=by simp [hop,Op.operands]
 split at h
 ·rename_i l' c' el hl hc hu
  split at h
  ·rename_i z s i hz hs hi
   split at h
   ·rename_i hcond
    simp only [Bool.and_eq_true,beq_iff_eq,decide_eq_true_eq] at hcond
    obtain ⟨⟨hzs,hs0⟩,hby⟩:=hcond
    have h':eMkSlice (z8 z && s == 1) z l' c' id ph e H k=1:=h
    unfold eMkSlice at h'
    rw [getA_eq] at h'
    obtain ⟨kl,ln,hln,h1⟩:=vInt_ok h'
    rw [getA_eq] at h1
    obtain ⟨kc,cn,hcn,h2⟩:=vInt_ok h1
    obtain ⟨h3,h4⟩:=ifB_no h2
    obtain ⟨h5,h6⟩:=ifB_no h4
    obtain ⟨h7,h8⟩:=ifB_no h6
    obtain ⟨h9,h10⟩:=ifB_no h8
    have hle:=ble_of h7
    have hcs:=ble_of h9
    obtain ⟨i',zv,hi',hzv,hvr,hone⟩:=zeroT_ok hz
    rw [hi] at hi'
    cases hi'
    have hsz:i.size=s:=by simpa [szT,hi] using hs
    have fin:∀ (bl:Blk) (H':Heap),NewTo H bl H'→k (.slice H.n 0 ln (Nat.succ cn) 0) H'=1→rowOf bl=some (replL cn z)→(∀ ln n,bl = .bytes ln n→n<256 ^ ln)→(∀ v ∈ replL cn z,v.one=true)→Good P nt o e H k:=by
     intro bl H' hN hk r1 r2 r3
     refine ⟨_,_,OpS.of_run hnd fun base w0 rho w a hp ho => ?_,hk⟩
     have vl:=ho l mem.1 l' hl
     have vc:=ho c mem.2 c' hc
     rw [hln] at vl
     rw [hcn] at vc
     simp only [VR] at vl vc
     have hmv:=made_vrs (hvr (mu rho H w)) cn
     rw [hzs] at hmv
     obtain ⟨rho',p1,p2,p3⟩:=hp.fresh (w':=w.alloc (.cells (madeCells zv.cells (cn * s)) el)) (t:=el) hN r1 r2 (RowR.exact hmv r3) ⟨rfl,rfl,rfl⟩ rfl
     refine ⟨.slice (some ⟨w.heap.size,0,none⟩) ln cn,w.alloc (.cells (madeCells zv.cells (cn * s)) el), ?_,rho',by simp only [VR];exact ⟨_,_,_,_,rfl,p3,hle,⟨fun q hq=>by injection hq,fun h=>absurd h (by omega)⟩,Or.inl ⟨rfl,rfl⟩⟩,p1,p2⟩
     have hm:=run_make (P:=P) w t el i zv hu hi hzv (kKind kl) (kKind kc) (ln:Int) (cn:Int) (by omega) (by omega) (by
      have:i.bytes * cn≤65536 * 16777216:=Nat.mul_le_mul hby hcs
      have h2:((i.bytes * cn:Nat):Int)≤281474976710656:=by omega
      simpa using h2) (by omega)
     rw [toI_64 (ble_of h3) vl.2.2 (by omega) vl.2.1] at vl
     rw [toI_64 (ble_of h5) vc.2.2 (by omega) vc.2.1] at vc
     simp only [Int.toNat_natCast,hsz] at hm
     simp [execOp,hop,vl.1,vc.1,hm]
    rcases ifB_or h10 with ⟨h11,h12⟩ | ⟨h11,h12⟩
    ·obtain ⟨H',h13,h14⟩:=hNew_ok h12
     rw [forceN_eq] at h13
     simp only [Bool.and_eq_true,beq_iff_eq] at h11
     have hz1:z=[.int 4 0]:=by
      have:=z8_ok h11.1
      rw [hzs,h11.2] at this
      exact this
     have hrep:∀ q:Nat,(sbytes q 0).map byteV=replL q z:=by
      intro q
      rw [hz1]
      induction q with
      | zero=>rfl
      | succ q ih=>simp only [sbytes,List.map_cons,replL,List.cons_append,List.nil_append,← ih];rfl
     exact fin _ H' h14 h13 (by simp only [rowOf];rw [hrep]) (fun ln n e=>by cases e;exact Nat.pow_pos (by decide)) (fun v hv=>by rw [← hrep] at hv;obtain ⟨y,_,rfl⟩:=List.mem_map.1 hv;rfl)
    ·rw [repL_eq] at h12
     obtain ⟨h13,h14⟩:=allOne_ok h12
     obtain ⟨H',h15,h16⟩:=hNew_ok h14
     rw [forceN_eq] at h15
     exact fin _ H' h16 h15 rfl (fun ln n e=>by cases e) h13
   ·exact (no_ne h).elim
  ·exact (no_ne h).elim
 ·exact (no_ne h).elim
end
end Go.Ev
end
section
namespace Go.Ev
open Go.RowKit
section
variable {P:Program} {nt:Nat} {o:Oper} {id:Nat} {ph:Phi} {e:Env} {H:Heap} {k:K}
theorem conv_small (k k':IntKind) (a:Nat) (ha:a<kMod k) (hc:¬ (k.signed=true∧k.bits<k'.bits)):k'.wrap (toI k a)=toI k' (a % 2 ^ k'.bits):=by
 show k'.wrap (k.wrap (a:Int))=k'.wrap ((a % 2 ^ k'.bits:Nat):Int)
 apply wrap_congr
 unfold kMod at ha
 cases k <;> cases k' <;> simp [IntKind.wrap,IntKind.bits,IntKind.signed] at * <;> (try split) <;> omega
theorem conv_wide (k k':IntKind) (a:Nat) (ha:a<kMod k) (hc:k.signed=true∧k.bits<k'.bits):k'.wrap (toI k a)=toI k' (if a<2 ^ (k.bits-1) then a else a+(2 ^ k'.bits-2 ^ k.bits))∧(if a<2 ^ (k.bits-1) then a else a+(2 ^ k'.bits-2 ^ k.bits))<kMod k':=by
 unfold kMod at ha ⊢
 by_cases hlt:a<2 ^ (k.bits-1)
 ·rw [if_pos hlt]
  constructor
  ·show k'.wrap (k.wrap (a:Int))=k'.wrap (a:Int)
   apply wrap_congr
   cases k <;> cases k' <;> simp [IntKind.wrap,IntKind.bits,IntKind.signed] at * <;> (try split) <;> omega
  ·cases k <;> cases k' <;> simp [IntKind.bits,IntKind.signed] at * <;> omega
 ·rw [if_neg hlt]
  constructor
  ·show k'.wrap (k.wrap (a:Int))=k'.wrap ((a+(2 ^ k'.bits-2 ^ k.bits):Nat):Int)
   apply wrap_congr
   cases k <;> cases k' <;> simp [IntKind.wrap,IntKind.bits,IntKind.signed] at * <;> (try split) <;> omega
  ·cases k <;> cases k' <;> simp [IntKind.bits,IntKind.signed] at * <;> omega
theorem push_bytes:∀ (ns:List Int) (s:ByteArray),(ns.foldl (fun r n=>r.push (UInt8.ofNat n.toNat)) s).data.toList=s.data.toList ++ ns.map fun n=>UInt8.ofNat n.toNat
 | [],s=>by simp
 | n :: ns,s=>by rw [List.foldl_cons,push_bytes ns];simp [ByteArray.push]
theorem vrs_bytes {m:M}:∀ {l:List UInt8} {cs:List Value},VRs m (l.map byteV) cs→cs=(l.map fun x=>(x.toNat:Int)).map (Value.int .u8)
 | [],cs,h=>by simp only [List.map_nil,VRs] at h;simpa using h
 | x :: l,cs,h=>by
  simp only [List.map_cons,VRs] at h
  obtain ⟨c,r,rfl,h1,h2⟩:=h
  rw [vrs_bytes h2]
  simp only [List.map_cons]
  congr 1
  exact h1.int4.2
theorem loadB_pure {b off n:Nat} {f:Nat→R} (h:loadB id H b off n f=1):∃ x,f x=1 ∧ ∀ {base:Nat} {w0 w:World} {rho:Nat→Option Nat} {c:Nat},PR P base w0 rho H w→(mu rho H w).b b c →
  x<256 ^ n∧(loadCells ⟨c,off,none⟩ n).run P w = .ok (((sbytes n x).map fun y=>(y.toNat:Int)).map (Value.int .u8)).toArray w:=by
 obtain ⟨row,x,h1,h2,h3,h4,h5⟩:=loadB_ok h
 refine ⟨x,h3,fun {base w0 w rho c} hp hm => ?_⟩
 obtain ⟨cs,g1,g2,g3⟩:=hp.cells (hp.rho_of hm h1) h1 h2
 obtain ⟨h6,h7⟩:=h5 g2.small
 have hl:((row.drop off).take n).length=n:=by simp;omega
 rw [hl] at h6 h7
 rw [h6] at g2
 refine ⟨h7, ?_⟩
 rw [g1,vrs_bytes g2]
theorem str_of_bytes (l x:Nat):(((sbytes l x).map fun y=>(y.toNat:Int)).foldl (fun r n=>r.push (UInt8.ofNat n.toNat)) ByteArray.empty)=⟨(sbytes l x).toArray⟩:=by
 apply Go.WideShapes.bytes_inj
 rw [push_bytes]
 have he:(ByteArray.empty).data.toList=[]:=rfl
 rw [he,List.nil_append,List.map_map]
 conv=>rhs;rw [← List.map_id (sbytes l x)]
 apply List.map_congr_left
 intro y _
 simp
theorem run_stringToBytes {t:TypeId} {s:ByteArray} {w:World} (hbig:s.size≤16777216):∃ cap w',(s.size≤cap∧cap<9223372036854775808)∧(Conv.stringToBytes t s).run P w = .ok (.slice (some ⟨w.heap.size,0,none⟩) s.size cap) w'∧Same w w' ∧
  w'.heap=w.heap.push (.cells (s.data.map (fun b=>Value.int .u8 b.toNat) ++ Array.replicate (cap-s.size) (Value.int .u8 0)) t (cap,cap+1)):=by
 refine ⟨(Question.appendCap s.size 0 t).cut (w.tape w.drawn (.appendCap s.size 0 t)), ?_⟩
 have hle:s.size≤(Question.appendCap s.size 0 t).cut (w.tape w.drawn (.appendCap s.size 0 t))∧(Question.appendCap s.size 0 t).cut (w.tape w.drawn (.appendCap s.size 0 t))<9223372036854775808:=by
  have hmod:=Nat.mod_lt (w.tape w.drawn (.appendCap s.size 0 t)) (show 0<2 ^ 63-s.size by omega)
  simp only [Question.cut]
  omega
 generalize hcap:(Question.appendCap s.size 0 t).cut (w.tape w.drawn (.appendCap s.size 0 t))=cap at hle ⊢
 have hsz:(s.data.map (fun b=>Value.int .u8 b.toNat) ++ Array.replicate (cap-s.size) (Value.int .u8 0)).size=cap:=by
  simp;have:s.data.size=s.size:=rfl;omega
 generalize hcs:s.data.map (fun b=>Value.int .u8 b.toNat) ++ Array.replicate (cap-s.size) (Value.int .u8 0)=cs at hsz ⊢
 refine ⟨{ w with heap:=w.heap.push (.cells cs t (cap,cap+1)),drawn:=w.drawn+1 },hle, ?_,⟨rfl,rfl,rfl⟩,rfl⟩
 simp only [Conv.stringToBytes,Sem.run_bind,run_choose,Question.forced,Bool.false_eq_true,if_false,Result.andThen_ok,hcap,newRow,run_newObj,Sem.run_pure,markStringish,run_shape,hcs]
 have h1:({ w with heap:=w.heap.push (.cells cs t),drawn:=w.drawn+1 }:World).shape? w.heap.size=some (t,cap):=by
  simp [World.shape?,hsz]
 have h2:({ w with heap:=w.heap.push (.cells cs t),drawn:=w.drawn+1 }:World).freeze ⟨w.heap.size,cap,none⟩ 1 = { w with heap:=w.heap.push (.cells cs t (cap,cap+1)),drawn:=w.drawn+1 }:=by
  simp only [World.freeze,Nat.one_ne_zero,if_false]
  congr 1
  apply Array.ext_getElem?
  intro i
  rw [Array.getElem?_modify]
  by_cases hi:i=w.heap.size
  ·subst hi;simp
  ·rw [if_neg (fun e=>hi e.symm)]
   simp only [Array.getElem?_push,if_neg hi]
 simp only [h1,Result.andThen_ok,run_freeze,h2]
theorem s_convert {src dst:TypeId} {x:Operand} (hop:o.op = .convert src dst x) (h:evOp (compOp P nt o) id ph e H k=1):Good P nt o e H k:=by
 simp only [compOp,hop] at h
 have mem:x ∈ o.op.operands:=by simp [hop,Op.operands]
 have hnd:∀ c,o.op ≠ .defer c:=by simp [hop]
 split at h
 ·rename_i x' kx kd hx hs hd
  have key:∀ (mode c:Nat),eConvI (kOf kx) (kOf kd) mode c x' id ph e H k=1→(∀ a r,a<kMod kx→(if mode=0 then a % c else if a<mode then a else a+c)=r→kd.wrap (toI kx a)=toI kd r∧r<kMod kd)→Good P nt o e H k:=by
   intro mode c h' hr
   unfold eConvI at h'
   rw [getA_eq] at h'
   obtain ⟨k1,a,ha,h1⟩:=vInt_ok h'
   obtain ⟨h2,h3⟩:=ifB_no h1
   have:=beq_of h2
   subst this
   have h4:k (.int (kOf kd) (if mode=0 then a % c else if a<mode then a else a+c)) H=1:=by
    cases mode with
    | zero=>
     have h5:forceN (Nat.mod a c) (fun r=>k (.int (kOf kd) r) H)=1:=h3
     rw [forceN_eq] at h5
     exact h5
    | succ n=>
     have h5:ifB (Nat.blt a (n+1)) (k (.int (kOf kd) a) H) (forceN (Nat.add a c) fun r=>k (.int (kOf kd) r) H)=1:=h3
     rw [if_neg (by omega)]
     rcases ifB_or h5 with ⟨h6,h7⟩ | ⟨h6,h7⟩
     ·rw [if_pos (blt_of h6)];exact h7
     ·rw [forceN_eq] at h7
      rw [if_neg]
      ·exact h7
      ·intro hlt
       have:Nat.blt a (n+1)=true:=Nat.ble_eq_true_of_le hlt
       rw [this] at h6;cases h6
   refine ⟨_,_,OpS.of_pure hnd fun m w ac ho => ?_,h4⟩
   have v:=ho x mem x' hx
   rw [ha] at v
   simp only [VR,kKind_kOf] at v
   obtain ⟨h5,h6⟩:=hr a _ v.2.1 rfl
   refine ⟨.int kd (kd.wrap (toI kx a)), ?_, ?_⟩
   ·simp [execOp,hop,v.1,convert,run_underlying hs,run_underlying hd,Conv.intToInt]
   ·rw [h5]
    simp only [VR,kKind_kOf]
    exact ⟨trivial,h6,kOf_lt kd⟩
  unfold convOp at h
  split at h
  ·rename_i hc
   simp only [Bool.and_eq_true,decide_eq_true_eq] at hc
   refine key (2 ^ (kx.bits-1)) (2 ^ kd.bits-2 ^ kx.bits) h fun a r ha hr => ?_
   rw [if_neg (by cases kx <;> decide)] at hr
   rw [← hr]
   exact conv_wide kx kd a ha hc
  ·rename_i hc
   simp only [Bool.and_eq_true,decide_eq_true_eq] at hc
   refine key 0 (2 ^ kd.bits) h fun a r ha hr => ?_
   rw [if_pos rfl] at hr
   rw [← hr]
   exact ⟨conv_small kx kd a ha hc,Nat.mod_lt _ (kMod_pos kd)⟩
 ·rename_i x' el hx hs hd
  split at h
  ·rename_i hu8
   have hel:P.underlying el=some (.int .u8):=by
    unfold isU8 at hu8
    split at hu8
    ·assumption
    ·cases hu8
   have h':eConvB2S x' id ph e H k=1:=h
   unfold eConvB2S at h'
   rw [getA_eq] at h'
   rcases vSliceN_ok h' with ⟨b,off,l,cp,sz,hb,h1⟩ | ⟨hb,h1⟩
   ·obtain ⟨n,h2,h3⟩:=loadB_pure (P:=P) h1
    refine ⟨_,_,OpS.of_run hnd fun base w0 rho w a hp ho => ?_,h2⟩
    have v:=ho x mem x' hx
    rw [hb] at v
    simp only [VR] at v
    obtain ⟨c,cap,o',sp,hc,hm,hle,hcp,ho'⟩:=v
    obtain ⟨h4,h5⟩:=h3 hp hm
    have h5':(loadCells ⟨c,o',sp⟩ l).run P w = .ok (((sbytes l n).map fun y=>(y.toNat:Int)).map (Value.int .u8)).toArray w:=by
     rcases ho' with ⟨rfl,rfl⟩ | h6
     ·exact h5
     ·have:l=0:=by omega
      subst this
      rfl
    refine ⟨.string ⟨(sbytes l n).toArray⟩,w, ?_,rho,by simp only [VR];exact ⟨trivial,h4⟩,hp,Ext.refl hp.lt⟩
    have hr:=run_bytesToString (P:=P) w ⟨c,o',sp⟩ l cap _ h5'
    rw [str_of_bytes] at hr
    simp only [execOp,hop,hc,Sem.run_bind,run_convert_bytes_string w src dst el (some ⟨c,o',sp⟩) l cap hs hel hd,hr,Result.andThen_ok,Sem.run_pure]
   ·refine ⟨_,_,OpS.of_pure hnd fun m w ac ho => ?_,h1⟩
    have v:=ho x mem x' hx
    rw [hb] at v
    simp only [VR] at v
    refine ⟨.string ByteArray.empty, ?_,by simp only [VR];exact ⟨rfl,by decide⟩⟩
    simp only [execOp,hop,v,Sem.run_bind,run_convert_bytes_string w src dst el none 0 0 hs hel hd,Conv.bytesToString,Sem.run_pure,Result.andThen_ok]
  ·exact (no_ne h).elim
 ·rename_i x' el hx hs hd
  split at h
  ·rename_i hu8
   have hel:P.underlying el=some (.int .u8):=by
    unfold isU8 at hu8
    split at hu8
    ·assumption
    ·cases hu8
   have h':eConvS2B x' id ph e H k=1:=h
   unfold eConvS2B at h'
   rw [getA_eq] at h'
   obtain ⟨l,n,hb,h1⟩:=vStr_ok h'
   obtain ⟨hl,h1⟩:=ifB_no h1
   obtain ⟨H',h2,h3⟩:=hNew_ok h1
   refine ⟨_,_,OpS.of_run hnd fun base w0 rho w a hp ho => ?_,h2⟩
   have v:=ho x mem x' hx
   rw [hb] at v
   simp only [VR] at v
   obtain ⟨cap,w',g1,g2,g3,g4⟩:=run_stringToBytes (P:=P) (t:=el) (s:=⟨(sbytes l n).toArray⟩) (w:=w) (by simp [ByteArray.size,sbytes_length];exact ble_of hl)
   have hsz:(⟨(sbytes l n).toArray⟩:ByteArray).size=l:=by simp [ByteArray.size,sbytes_length]
   rw [hsz] at g1 g2 g4
   have hR:RowR (mu rho H w) ((sbytes l n).map byteV) ((⟨(sbytes l n).toArray⟩:ByteArray).data.map (fun b=>Value.int .u8 b.toNat) ++ Array.replicate (cap-l) (Value.int .u8 0)) (cap,cap+1):=by
    refine ⟨fun i v hi => ?_,fun i hi => ?_⟩
    ·rw [List.getElem?_map,Option.map_eq_some_iff] at hi
     obtain ⟨y,hy,rfl⟩:=hi
     refine ⟨rfl, .int .u8 y.toNat, ?_,VR_byte _ y⟩
     have hlt:i<l:=by
      rcases Nat.lt_or_ge i l with h | h
      ·exact h
      ·rw [List.getElem?_eq_none (by rw [sbytes_length];exact h)] at hy;cases hy
     rw [Array.getElem?_append_left (by simp [sbytes_length];exact hlt)]
     simp [hy]
    ·simp [sbytes_length] at hi ⊢
     omega
   obtain ⟨rho',p1,p2,p3⟩:=hp.fresh (w':=w') h3 rfl (fun ln m' e=>by cases e;exact v.2) hR g3 g4
   refine ⟨.slice (some ⟨w.heap.size,0,none⟩) l cap,w', ?_,rho',by simp only [VR];exact ⟨_,_,_,_,rfl,p3,g1.1,⟨fun q hq=>absurd hq (by omega),fun _=>Or.inr ⟨⟨_,_,_,by rw [g4,Array.getElem?_push_size],by have hle:(sbytes l n).length=l:=sbytes_length l n;simp [sbytes_length];omega⟩,g1.2⟩⟩,Or.inl ⟨rfl,rfl⟩⟩,p1,p2⟩
   simp [execOp,hop,v.1,convert,run_underlying hs,run_underlying hd,run_underlying hel,g2]
  ·exact (no_ne h).elim
 ·rename_i x' hx hs hd
  have h':eSadd x' (.c (.str 0 0)) id ph e H k=1:=h
  unfold eSadd at h'
  rw [getA_eq] at h'
  obtain ⟨l,n,hb,h1⟩:=vStr_ok h'
  rw [getA_eq] at h1
  obtain ⟨l2,n2,hb2,h2⟩:=vStr_ok h1
  simp only [pgetA,V.str.injEq] at hb2
  obtain ⟨rfl,rfl⟩:=hb2
  rw [forceN_eq] at h2
  obtain ⟨_,h3⟩:=ifB_no h2
  rw [forceN_eq] at h3
  have e1:Nat.add n (Nat.shiftLeft 0 (Nat.mul 8 l))=n:=by
   show n+0 <<< (8 * l)=n
   simp
  rw [e1] at h3
  refine ⟨_,_,OpS.of_pure hnd fun m w ac ho => ?_,h3⟩
  have v:=ho x mem x' hx
  rw [hb] at v
  simp only [VR] at v
  exact ⟨ac.eval x,by simp [execOp,hop,v.1,convert,run_underlying hs,run_underlying hd],by simp only [VR];exact v⟩
 ·exact (no_ne h).elim
end
end Go.Ev
end
section
namespace Go.Ev
open Go.RowKit
section
variable {P:Program} {nt:Nat} {o:Oper} {id:Nat} {ph:Phi} {e:Env} {H:Heap} {k:K}
def BndOK (m:M) (e:Env) (x:Option Arg) (cv:Option Value):Prop:=match x,cv with
 | none,none=>True
 | some a,some c=>VR m (pgetA a e) c
 | _,_=>False
theorem oArg_ok {m:M} {ac:Act} {x:Option Operand} {x':Option Arg} (h:oArg nt x=some x') (ho:∀ y,x=some y → ∀ ar,compArg nt y=some ar→VR m (pgetA ar e) (ac.eval y)):BndOK m e x' (x.map ac.eval):=by
 cases x with
 | none=>simp only [oArg,Option.some.injEq] at h;subst h;trivial
 | some y=>
  simp only [oArg,Option.map_eq_some_iff] at h
  obtain ⟨a,h1,rfl⟩:=h
  exact ho y rfl a h1
theorem bnd_ok {x:Option Arg} {d:Nat} {f:Nat→R} (h:bnd id x e d f=1):∃ n,f n=1∧(x=none→n=d) ∧ ∀ (m:M) (cv:Option Value),BndOK m e x cv→x.isSome=true → ∃ kd,cv=some (.int kd n):=by
 cases x with
 | none=>exact ⟨d,h,fun _=>rfl,fun _ _ _ h=>by cases h⟩
 | some a=>
  have h':getA a e (fun v=>vInt id v fun kd n=>ifB (Nat.ble 3 kd) (ifB (Nat.blt n 9223372036854775808) (f n) (no _)) (no _))=1:=h
  rw [getA_eq] at h'
  obtain ⟨kd,n,hn,h1⟩:=vInt_ok h'
  obtain ⟨h2,h3⟩:=ifB_no h1
  obtain ⟨h4,h5⟩:=ifB_no h3
  refine ⟨n,h5,fun h=>(by cases h),fun m cv hb _ => ?_⟩
  cases cv with
  | none=>exact hb.elim
  | some c=>
   have hv:VR m (pgetA a e) c:=hb
   rw [hn] at hv
   simp only [VR] at hv
   exact ⟨kKind kd,by rw [hv.1,toI_64 (ble_of h2) hv.2.2 (blt_of h4) hv.2.1]⟩
theorem run_sliceBound {kd:IntKind} {n y:Nat} {code:BoundsCode} {w:World} (h:n≤y):(Instr.sliceBound (.int kd n) y code).run P w = .ok n w:=by
 simp [Instr.sliceBound,asIntOf,h]
theorem run_sliceBounds {isS:Bool} {len cap l h mm:Nat} {m:M} {lo hi mx:Option Arg} {clo chi cmx:Option Value} {w:World} (b1:BndOK m e lo clo) (b2:BndOK m e hi chi) (b3:BndOK m e mx cmx)
  (hlo:lo=none→l=0) (hhi:hi=none→h=len) (hmx:mx=none→mm=cap) (hlo':∀ (m:M) (cv:Option Value),BndOK m e lo cv→lo.isSome=true → ∃ kd,cv=some (.int kd l)) (hhi':∀ (m:M) (cv:Option Value),BndOK m e hi cv→hi.isSome=true → ∃ kd,cv=some (.int kd h))
  (hmx':∀ (m:M) (cv:Option Value),BndOK m e mx cv→mx.isSome=true → ∃ kd,cv=some (.int kd mm)) (hno:hi=none→mx=none) (h1:l≤h) (h2:h≤mm) (h3:mm≤cap) :
  (Instr.sliceBounds isS len cap clo chi cmx).run P w = .ok (l,h,mm) w:=by
 cases mx with
 | none=>
  cases cmx with
  | some _=>exact b3.elim
  | none=>
   have:=hmx rfl
   subst this
   cases hi with
   | none=>
    cases chi with
    | some _=>exact b2.elim
    | none=>
     have:=hhi rfl
     subst this
     cases lo with
     | none=>
      cases clo with
      | some _=>exact b1.elim
      | none=>have:=hlo rfl;subst this;simp [Instr.sliceBounds]
     | some a=>
      obtain ⟨kd,rfl⟩:=hlo' _ _ b1 rfl
      simp [Instr.sliceBounds,run_sliceBound h1]
   | some a2=>
    obtain ⟨kd2,rfl⟩:=hhi' _ _ b2 rfl
    cases lo with
    | none=>
     cases clo with
     | some _=>exact b1.elim
     | none=>have:=hlo rfl;subst this;simp [Instr.sliceBounds,run_sliceBound h2]
    | some a=>
     obtain ⟨kd,rfl⟩:=hlo' _ _ b1 rfl
     simp [Instr.sliceBounds,run_sliceBound h1,run_sliceBound h2]
 | some a3=>
  obtain ⟨kd3,rfl⟩:=hmx' _ _ b3 rfl
  cases hi with
  | none=>cases hno rfl
  | some a2=>
   obtain ⟨kd2,rfl⟩:=hhi' _ _ b2 rfl
   cases lo with
   | none=>
    cases clo with
    | some _=>exact b1.elim
    | none=>have:=hlo rfl;subst this;simp [Instr.sliceBounds,run_sliceBound h2,run_sliceBound h3]
   | some a=>
    obtain ⟨kd,rfl⟩:=hlo' _ _ b1 rfl
    simp [Instr.sliceBounds,run_sliceBound h1,run_sliceBound h2,run_sliceBound h3]
theorem s_slice {t:TypeId} {x:Operand} {lo hi mx:Option Operand} (hop:o.op = .slice t x lo hi mx) (h:evOp (compOp P nt o) id ph e H k=1):Good P nt o e H k:=by
 simp only [compOp,hop] at h
 have mem:x ∈ o.op.operands:=by simp [hop,Op.operands]
 have mlo:∀ y,lo=some y→y ∈ o.op.operands:=fun y hy=>by subst hy;simp [hop,Op.operands]
 have mhi:∀ y,hi=some y→y ∈ o.op.operands:=fun y hy=>by subst hy;simp [hop,Op.operands]
 have mmx:∀ y,mx=some y→y ∈ o.op.operands:=fun y hy=>by subst hy;simp [hop,Op.operands]
 have hnd:∀ c,o.op ≠ .defer c:=by simp [hop]
 split at h
 rotate_left
 ·exact (no_ne h).elim
 rename_i x' lo' hi' mx' hx hlo hhi hmx
 split at h
 ·rename_i hu
  split at h
  ·have h':eSlS x' lo' hi' id ph e H k=1:=h
   unfold eSlS at h'
   rw [getA_eq] at h'
   obtain ⟨len,n,hb,h1⟩:=vStr_ok h'
   obtain ⟨hh,h2,h3,h4⟩:=bnd_ok h1
   obtain ⟨ll,h5,h6,h7⟩:=bnd_ok h2
   obtain ⟨h8,h9⟩:=ifB_no h5
   obtain ⟨h10,h11⟩:=ifB_no h9
   rw [forceN_eq,forceN_eq] at h11
   have hl:=ble_of h8
   have hh':=ble_of h10
   refine ⟨_,_,OpS.of_pure hnd fun m w ac ho => ?_,h11⟩
   have v:=ho x mem x' hx
   rw [hb] at v
   simp only [VR] at v
   have hmn:mx=none:=by
    cases mx with
    | none=>rfl
    | some y=>simp [oArg] at hmx
   subst hmn
   have hsb:=run_sliceBounds (P:=P) (isS:=false) (len:=len) (cap:=len) (l:=ll) (h:=hh) (mm:=len) (w:=w) (mx:=none) (cmx:=none) (oArg_ok (m:=m) (ac:=ac) hlo fun y hy=>ho y (mlo y hy)) (oArg_ok (m:=m) (ac:=ac) hhi fun y hy=>ho y (mhi y hy)) trivial h6 h3 (fun _=>rfl) h7 h4 (fun _ _ _ h=>by cases h) (fun _=>rfl) hl hh' (Nat.le_refl _)
   have e1:Nat.mod (Nat.shiftRight n (Nat.mul 8 ll)) (Nat.pow 256 (Nat.sub hh ll))=n / 256 ^ ll % 256 ^ (hh-ll):=by
    show (n >>> (8 * ll)) % 256 ^ (hh-ll)=_
    rw [Nat.shiftRight_eq_div_pow,Nat.pow_mul]
   rw [e1]
   refine ⟨.string ⟨(sbytes (hh-ll) (n / 256 ^ ll % 256 ^ (hh-ll))).toArray⟩, ?_,by simp only [VR];exact ⟨rfl,Nat.mod_lt _ (Nat.pow_pos (by decide))⟩⟩
   have hsz:(⟨(sbytes len n).toArray⟩:ByteArray).size=len:=by simp [ByteArray.size,sbytes_length]
   have hex:(⟨(sbytes len n).toArray⟩:ByteArray).extract ll hh=⟨(sbytes (hh-ll) (n / 256 ^ ll % 256 ^ (hh-ll))).toArray⟩:=by
    apply Go.WideShapes.bytes_inj
    rw [ByteArray.data_extract]
    simp only [Array.toList_extract,List.extract_eq_take_drop]
    rw [sbytes_drop _ _ _ (by omega),sbytes_take _ _ _ (by omega)]
    exact sbytes_mod _ _ _ (by simp)
   simp [execOp,hop,v.1,Instr.sliceAt,Instr.slice,run_underlying hu,hsz,hsb,hex]
  ·exact (no_ne h).elim
 ·rename_i el hu
  split at h
  ·rename_i s hs
   have hfin:eSlV s x' lo' hi' mx' id ph e H k=1∧(hi'=none→mx'=none):=by
    split at h
    ·exact (no_ne h).elim
    ·rename_i hno
     exact ⟨h,fun h1=>by
      cases mx' with
      | none=>rfl
      | some a=>exact (hno a h1 rfl).elim⟩
   obtain ⟨h',hno⟩:=hfin
   unfold eSlV at h'
   rw [getA_eq] at h'
   rcases vSliceN_ok h' with ⟨b,off,len,cp,sz,hb,h1⟩ | ⟨hb,h1⟩
   ·obtain ⟨ll,h2,h3,h4⟩:=bnd_ok h1
    obtain ⟨hh,h5,h6,h7⟩:=bnd_ok h2
    obtain ⟨h8,h9⟩:=ifB_no h5
    have hle:=ble_of h8
    rw [forceN_eq] at h9
    have key:∀ (cp':Nat) (off':Nat) (sz':Nat),k (.slice b off' (hh-ll) cp' sz') H=1→(cp'=0→cp=0∧sz'=sz∧sz=s∧mx'=none) →
      (∀ (c cap o':Nat) (m:M) (cmx:Option Value),BndOK m e mx' cmx→len≤cap→(∀ q,cp=q+1→cap=q)→(o'=off∨cap=0) → ∃ mm,hh≤mm∧mm≤cap∧(mx'=none→mm=cap)∧(∀ (m:M) (cv:Option Value),BndOK m e mx' cv→mx'.isSome=true → ∃ kd,cv=some (.int kd mm)) ∧
       (∀ q,cp'=q+1→mm-ll=q)∧((if mm=ll then o' else o'+ll * s)=off'∨mm-ll=0))→Good P nt o e H k:=by
     intro cp' off' sz' hk hsz0 hmm
     refine ⟨_,_,OpS.of_pure hnd fun m w ac ho => ?_,hk⟩
     have v:=ho x mem x' hx
     rw [hb] at v
     simp only [VR] at v
     obtain ⟨c,cap,o',sp,hc,hm,hlc,hcp,ho'⟩:=v
     have bm:=oArg_ok (m:=m) (ac:=ac) (e:=e) hmx fun y hy=>ho y (mmx y hy)
     obtain ⟨mm,g1,g2,g3,g4,g5,g6⟩:=hmm c cap o' m _ bm hlc hcp.1 (ho'.imp (·.1) fun h=>h)
     have hsb:=run_sliceBounds (P:=P) (isS:=true) (len:=len) (cap:=cap) (l:=ll) (h:=hh) (mm:=mm) (w:=w) (oArg_ok (m:=m) (ac:=ac) hlo fun y hy=>ho y (mlo y hy)) (oArg_ok (m:=m) (ac:=ac) hhi fun y hy=>ho y (mhi y hy)) bm h3 h6 g3 h4 h7 g4 hno hle g1 g2
     refine ⟨.slice (some ⟨c,if mm=ll then o' else o'+ll * s,sp⟩) (hh-ll) (mm-ll), ?_, ?_⟩
     ·have ha:(if mm=ll then some (⟨c,o',sp⟩:Addr) else Option.map (fun x=>x.add (ll * s)) (some (⟨c,o',sp⟩:Addr)))=some ⟨c,if mm=ll then o' else o'+ll * s,sp⟩:=by
       split
       ·rfl
       ·have hsp:sp=none:=by
         rcases ho' with h | h
         ·exact h.2
         ·omega
        rw [hsp];simp [Addr.add_lit]
      simp only [execOp,hop,hc,Instr.sliceAt,Sem.run_bind,run_underlying hu,Result.andThen_ok,Instr.slice,hsb,run_sizeOf' hs,Sem.run_pure,ha]
     ·simp only [VR]
      refine ⟨c,mm-ll,_,_,rfl,hm,by omega,⟨g5,fun h0 => ?_⟩, ?_⟩
      rotate_left
      ·rcases g6 with g6 | g6
       ·rcases ho' with h | h
        ·exact Or.inl ⟨g6,h.2⟩
        ·exact Or.inr (by omega)
       ·exact Or.inr g6
      obtain ⟨q1,q2,q3,q4⟩:=hsz0 h0
      by_cases hml:mm=ll
      ·left;omega
      ·have hcapm:=g3 q4
       rcases hcp.2 q1 with q5 | q5
       ·left;omega
       ·right
        rw [if_neg hml,q2,q3]
        have:o'+ll * s+(mm-ll) * s=o'+cap * s:=by
         rw [Nat.add_assoc,← Nat.add_mul]
         congr 2
         omega
        rw [this,← q3]
        exact ⟨q5.1,by have:=q5.2;omega⟩
    cases mx' with
    | none=>
     cases cp with
     | zero=>
      have h10:ifB (Nat.ble hh len) (ifB (Nat.beq sz s) (forceN (Nat.add off (Nat.mul ll s)) fun o'=>k (.slice b o' (Nat.sub hh ll) 0 sz) H) (no _)) (no _)=1:=h9
      obtain ⟨h11,h12⟩:=ifB_no h10
      obtain ⟨hszs,h12⟩:=ifB_no h12
      have hszs:=beq_of hszs
      rw [forceN_eq] at h12
      have hhl:=ble_of h11
      refine key 0 (off+ll * s) sz h12 (fun _=>⟨rfl,rfl,hszs,rfl⟩) fun c cap o' m cmx bm hlc hcp ho'=>⟨cap,by omega,Nat.le_refl _,fun _=>rfl,fun _ _ _ h=>(by cases h),fun q hq=>absurd hq (by omega), ?_⟩
      by_cases hcl:cap=ll
      ·right;omega
      ·left
       rw [if_neg hcl]
       rcases ho' with rfl | h13
       ·rfl
       ·omega
     | succ q=>
      have h10:ifB (Nat.ble hh q) (ifB (Nat.beq q ll) (k (.slice b off (Nat.sub hh ll) 1 0) H) (forceN (Nat.add off (Nat.mul ll s)) fun o'=>forceN (Nat.succ (Nat.sub q ll)) fun c'=>k (.slice b o' (Nat.sub hh ll) c' 0) H)) (no _)=1:=h9
      obtain ⟨h11,h12⟩:=ifB_no h10
      have hhq:=ble_of h11
      rcases ifB_or h12 with ⟨h13,h14⟩ | ⟨h13,h14⟩
      ·have:=beq_of h13
       subst this
       refine key 1 off 0 h14 (fun h=>absurd h (by omega)) fun c cap o' m cmx bm hlc hcp ho' => ?_
       have:=hcp q rfl
       subst this
       refine ⟨cap,hhq,Nat.le_refl _,fun _=>rfl,fun _ _ _ h=>(by cases h),fun r hr=>by omega,Or.inr (by omega)⟩
      ·rw [forceN_eq,forceN_eq] at h14
       rw [beq_dec] at h13
       have hne:q≠ll:=by simpa using h13
       refine key _ _ 0 h14 (fun h=>absurd h (by omega)) fun c cap o' m cmx bm hlc hcp ho' => ?_
       have:=hcp q rfl
       subst this
       refine ⟨cap,hhq,Nat.le_refl _,fun _=>rfl,fun _ _ _ h=>(by cases h),fun r hr=>by injection hr,Or.inl ?_⟩
       rw [if_neg hne]
       rcases ho' with rfl | h15
       ·rfl
       ·omega
    | some am=>
     have h10:bnd id (some am) e 0 (fun m=>ifB (Nat.ble hh m) (ifB (Nat.ble m (Nat.rec (motive:=fun _=>Nat) len (fun q _=>q) cp)) (ifB (Nat.beq m ll) (k (.slice b off (Nat.sub hh ll) 1 0) H) (forceN (Nat.add off (Nat.mul ll s)) fun o'=>forceN (Nat.succ (Nat.sub m ll)) fun c'=>k (.slice b o' (Nat.sub hh ll) c' 0) H)) (no _)) (no _))=1:=h9
     obtain ⟨mm,h11,_,h13⟩:=bnd_ok h10
     obtain ⟨h14,h15⟩:=ifB_no h11
     obtain ⟨h16,h17⟩:=ifB_no h15
     have hhm:=ble_of h14
     have hmc:=ble_of h16
     have hcap:∀ cap:Nat,len≤cap→(∀ q,cp=q+1→cap=q)→mm≤cap:=fun cap q1 q2=>by
      clear h9 h10 h17 h11 h15
      cases cp with
      | zero=>exact Nat.le_trans (show mm≤len from hmc) q1
      | succ q=>rw [q2 q rfl];exact hmc
     rcases ifB_or h17 with ⟨h18,h19⟩ | ⟨h18,h19⟩
     ·have:=beq_of h18
      subst this
      exact key 1 off 0 h19 (fun h=>absurd h (by omega)) fun c cap o' m cmx bm hlc hcp ho'=>⟨mm,hhm,hcap cap hlc hcp,fun h=>(by cases h),h13,fun r hr=>by omega,Or.inr (by omega)⟩
     ·rw [forceN_eq,forceN_eq] at h19
      rw [beq_dec] at h18
      have hne:mm≠ll:=by simpa using h18
      refine key _ _ 0 h19 (fun h=>absurd h (by omega)) fun c cap o' m cmx bm hlc hcp ho'=>⟨mm,hhm,hcap cap hlc hcp,fun h=>(by cases h),h13,fun r hr=>(by injection hr),Or.inl ?_⟩
      rw [if_neg hne]
      rcases ho' with rfl | h20
      ·rfl
      ·have:=hcap cap hlc hcp
       omega
   ·obtain ⟨ll,h2,h3,h4⟩:=bnd_ok h1
    obtain ⟨hh,h5,h6,h7⟩:=bnd_ok h2
    obtain ⟨mm,h8,h9,h10⟩:=bnd_ok h5
    obtain ⟨h11,h12⟩:=ifB_no h8
    obtain ⟨h13,h14⟩:=ifB_no h12
    obtain ⟨h15,h16⟩:=ifB_no h14
    have e1:=beq_of h11
    have e2:=beq_of h13
    have e3:=beq_of h15
    subst e1 e2 e3
    refine ⟨_,_,OpS.of_pure hnd fun m w ac ho => ?_,h16⟩
    have v:=ho x mem x' hx
    rw [hb] at v
    simp only [VR] at v
    have hsb:=run_sliceBounds (P:=P) (isS:=true) (len:=0) (cap:=0) (l:=0) (h:=0) (mm:=0) (w:=w) (oArg_ok (m:=m) (ac:=ac) hlo fun y hy=>ho y (mlo y hy)) (oArg_ok (m:=m) (ac:=ac) hhi fun y hy=>ho y (mhi y hy)) (oArg_ok (m:=m) (ac:=ac) hmx fun y hy=>ho y (mmx y hy)) h3 h6 h9 h4 h7 h10 hno (Nat.le_refl _) (Nat.le_refl _) (Nat.le_refl _)
    refine ⟨.slice none 0 0, ?_,by simp only [VR]⟩
    simp only [execOp,hop,v,Instr.sliceAt,Sem.run_bind,run_underlying hu,Result.andThen_ok,Instr.slice,hsb,run_sizeOf' hs,Sem.run_pure]
    rfl
  ·exact (no_ne h).elim
 ·rename_i n el hu
  split at h
  ·rename_i s hs
   have hfin:eSlA n s x' lo' hi' mx' id ph e H k=1∧(hi'=none→mx'=none):=by
    split at h
    ·exact (no_ne h).elim
    ·rename_i hno
     exact ⟨h,fun h1=>by
      cases mx' with
      | none=>rfl
      | some a=>exact (hno a h1 rfl).elim⟩
   obtain ⟨h',hno⟩:=hfin
   unfold eSlA at h'
   rw [getA_eq] at h'
   obtain ⟨b,off,hb,h1⟩:=vPtr_ok h'
   obtain ⟨mm,h2,h3,h4⟩:=bnd_ok h1
   obtain ⟨hh,h5,h6,h7⟩:=bnd_ok h2
   obtain ⟨ll,h8,h9,h10⟩:=bnd_ok h5
   obtain ⟨h11,h12⟩:=ifB_no h8
   obtain ⟨h13,h14⟩:=ifB_no h12
   obtain ⟨h15,h16⟩:=ifB_no h14
   rw [forceN_eq] at h16
   have hle:=ble_of h11
   have hhm:=ble_of h13
   have hmn:=ble_of h15
   have key:∀ (cp' off':Nat),k (.slice b off' (hh-ll) cp' 0) H=1→cp'≠0→(∀ q,cp'=q+1→mm-ll=q)→(if mm=ll then off else off+ll * s)=off'→Good P nt o e H k:=by
    intro cp' off' hk hne0 g5 g6
    refine ⟨_,_,OpS.of_pure hnd fun m w ac ho => ?_,hk⟩
    have v:=ho x mem x' hx
    rw [hb] at v
    simp only [VR] at v
    obtain ⟨c,hc,hm⟩:=v
    have hsb:=run_sliceBounds (P:=P) (isS:=false) (len:=n) (cap:=n) (l:=ll) (h:=hh) (mm:=mm) (w:=w) (oArg_ok (m:=m) (ac:=ac) hlo fun y hy=>ho y (mlo y hy)) (oArg_ok (m:=m) (ac:=ac) hhi fun y hy=>ho y (mhi y hy)) (oArg_ok (m:=m) (ac:=ac) hmx fun y hy=>ho y (mmx y hy)) h9 h6 h3 h10 h7 h4 hno hle hhm hmn
    refine ⟨.slice (some ⟨c,if mm=ll then off else off+ll * s,none⟩) (hh-ll) (mm-ll), ?_, ?_⟩
    ·have ha:(if mm=ll then (⟨c,off,none⟩:Addr) else (⟨c,off,none⟩:Addr).add (ll * s))=⟨c,if mm=ll then off else off+ll * s,none⟩:=by
      split <;> simp [Addr.add_lit]
     simp only [execOp,hop,hc,Instr.sliceAt,Sem.run_bind,run_underlying hu,Result.andThen_ok,Instr.sureAddr,hsb,run_sizeOf' hs,Sem.run_pure,ha]
    ·simp only [VR]
     exact ⟨c,mm-ll,_,_,rfl,hm,by omega,⟨g5,fun h=>absurd h hne0⟩,Or.inl ⟨g6,rfl⟩⟩
   rcases ifB_or h16 with ⟨h17,h18⟩ | ⟨h17,h18⟩
   ·have:=beq_of h17
    subst this
    exact key 1 off h18 (by omega) (fun q hq=>by omega) (by rw [if_pos rfl])
   ·rw [forceN_eq,forceN_eq] at h18
    rw [beq_dec] at h17
    have hne:mm≠ll:=by simpa using h17
    exact key _ _ h18 (by omega) (fun q hq=>by injection hq) (by rw [if_neg hne];rfl)
  ·exact (no_ne h).elim
 ·exact (no_ne h).elim
end
end Go.Ev
end
section
namespace Go.Ev
open Go.RowKit
section
variable {P:Program} {nt:Nat} {o:Oper} {id:Nat} {ph:Phi} {e:Env} {H:Heap} {k:K}
theorem s_makeMap {t:TypeId} (hop:o.op = .makeMap t none) (h:evOp (compOp P nt o) id ph e H k=1):Good P nt o e H k:=by
 simp only [compOp,hop] at h
 have hnd:∀ c,o.op ≠ .defer c:=by simp [hop]
 have h':(hNew H (.map []) fun b H=>k (.map b) H)=1:=h
 obtain ⟨H',h1,h2⟩:=hNew_ok h'
 refine ⟨_,_,OpS.of_run hnd fun base w0 rho w a hp ho => ?_,h1⟩
 obtain ⟨p1,p2⟩:=hp.alloc (w':=w.alloc (.map #[] 0)) (o := .map #[] 0) h2.n h2.wlo h2.get h2.oth trivial ⟨rfl,rfl,rfl⟩ (by simp) (World.alloc_heap_new w _) (fun j hj=>Below.heap_alloc _ _ _ hj) ⟨#[],0,[],rfl,List.Perm.refl _,⟨List.nodup_nil,fun x h=>by cases h⟩,⟨List.nodup_nil,fun x h=>by cases h⟩,by simp only [List.map_nil,VRs],by simp only [List.map_nil,VRs]⟩
 exact ⟨.map (some w.heap.size),w.alloc (.map #[] 0),by simp [execOp,hop,Instr.makeMap],_,by simp only [VR];exact ⟨_,rfl,by rw [h2.n];omega,fun _=>by simp⟩,p1,p2⟩
def KeyD (ks:Bool) (d:TypeDesc):Prop:=(ks=false ∧ ∃ k,d = .int k)∨(ks=true∧d = .string)
theorem keyT_ok {t:TypeId} {ks:Bool} (h:keyT P t=some ks):∃ d,P.underlying t=some d∧KeyD ks d:=by
 unfold keyT at h
 split at h
 ·rename_i q hu;cases h;exact ⟨_,hu,Or.inl ⟨rfl,q,rfl⟩⟩
 ·rename_i hu;cases h;exact ⟨_,hu,Or.inr ⟨rfl,rfl⟩⟩
 ·cases h
def KdK (ks:Bool) (x y:V):Prop:=(ks=false ∧ ∃ k a b,x = .int k a∧y = .int k b)∨(ks=true ∧ ∃ l a m b,x = .str l a∧y = .str m b)
theorem KdK.kd {ks:Bool} {x y:V} (h:KdK ks x y):Kd x y:=h.imp (fun h=>h.2) (fun h=>h.2)
theorem KdK.trans {ks:Bool} {x y z:V} (h:KdK ks x y) (k:Kd y z):KdK ks x z:=by
 rcases h with ⟨h,q,a,b,rfl,rfl⟩ | ⟨h,l,a,m,b,rfl,rfl⟩ <;> rcases k with ⟨q',a',b',e,rfl⟩ | ⟨l',a',m',b',e,rfl⟩ <;> cases e
 ·exact Or.inl ⟨h,_,_,_,rfl,rfl⟩
 ·exact Or.inr ⟨h,_,_,_,_,rfl,rfl⟩
theorem Kd.symm {x y:V} (h:Kd x y):Kd y x:=by
 rcases h with ⟨q,a,b,rfl,rfl⟩ | ⟨l,a,m,b,rfl,rfl⟩
 ·exact Or.inl ⟨_,_,_,rfl,rfl⟩
 ·exact Or.inr ⟨_,_,_,_,rfl,rfl⟩
theorem KdK.self {ks:Bool} {x y:V} (h:KdK ks x y):Kd x x:=by
 rcases h with ⟨h,q,a,b,rfl,rfl⟩ | ⟨h,l,a,m,b,rfl,rfl⟩
 ·exact Or.inl ⟨_,_,_,rfl,rfl⟩
 ·exact Or.inr ⟨_,_,_,_,rfl,rfl⟩
theorem keyEq_ok {ks:Bool} {x y:V} {f:Bool→R} (h:keyEq id ks x y f=1):∃ b,f b=1∧(b=true→x=y)∧(b=false→x≠y)∧KdK ks x y:=by
 cases x <;> first | exact (no_ne h).elim | skip
 ·rename_i k1 a
  have h':vInt id y (fun k2 b=>ifB ks (no _) (ifB (Nat.beq k1 k2) (f (Nat.beq a b)) (no _)))=1:=h
  obtain ⟨k2,b,rfl,h1⟩:=vInt_ok h'
  rcases ifB_or h1 with ⟨_,h2⟩ | ⟨hks,h2⟩
  ·exact (no_ne h2).elim
  obtain ⟨h3,h4⟩:=ifB_no h2
  have:=beq_of h3
  subst this
  refine ⟨_,h4,fun hb=>by rw [beq_of hb],fun hb e => ?_,Or.inl ⟨hks,_,_,_,rfl,rfl⟩⟩
  cases e
  rw [beq_dec] at hb
  simp at hb
 ·rename_i l1 a
  have h':vStr id y (fun l2 b=>ifB ks (ifB (Nat.beq l1 l2) (f (Nat.beq a b)) (f false)) (no _))=1:=h
  obtain ⟨l2,b,rfl,h1⟩:=vStr_ok h'
  obtain ⟨hks,h2⟩:=ifB_no h1
  have hf:f (decide (l1=l2) && decide (a=b))=1:=by
   rcases ifB_or h2 with ⟨h3,h4⟩ | ⟨h3,h4⟩
   ·rw [beq_dec] at h3 h4
    rw [h3];exact h4
   ·rw [beq_dec] at h3
    rw [h3];exact h4
  refine ⟨_,hf,fun hb=>by simp at hb;rw [hb.1,hb.2],fun hb e => ?_,Or.inr ⟨hks,_,_,_,_,rfl,rfl⟩⟩
  cases e
  simp at hb
theorem key_same {ks:Bool} {x y:V} (hk:KdK ks x y) {m:M} {cx cy:Value} {d:TypeDesc} (vx:VR m x cx) (vy:VR m y cy) (hd:KeyD ks d):(x=y→Instr.sameNow d cx cy=some true∧Instr.sameBits 10000 cy cx=true)∧(x≠y→Instr.sameNow d cx cy=some false):=by
 rcases hk with ⟨rfl,q,a,b,rfl,rfl⟩ | ⟨rfl,l1,a,l2,b,rfl,rfl⟩
 ·simp only [VR] at vx vy
  rw [vx.1,vy.1]
  rcases hd with ⟨_,q2,rfl⟩ | ⟨h,_⟩
  ·refine ⟨fun e => ?_,fun e => ?_⟩
   ·cases e
    refine ⟨by simp [Instr.sameNow], ?_⟩
    show Instr.sameBits (9999+1) _ _=true
    simp [Instr.sameBits]
   ·have hab:a≠b:=fun h=>e (by rw [h])
    have:toI (kKind q) a≠toI (kKind q) b:=fun h=>hab (toI_inj _ vx.2.1 vy.2.1 h)
    simp only [Instr.sameNow,if_true]
    simp [this]
  ·cases h
 ·simp only [VR] at vx vy
  rw [vx.1,vy.1]
  rcases hd with ⟨h,_⟩ | ⟨_,rfl⟩
  ·cases h
  ·refine ⟨fun e => ?_,fun e => ?_⟩
   ·cases e
    have hs:((⟨(sbytes l1 a).toArray⟩:ByteArray) == ⟨(sbytes l1 a).toArray⟩)=true:=by rw [beq_toListBytes];exact beq_self_eq_true _
    refine ⟨by simp only [Instr.sameNow,hs], ?_⟩
    show Instr.sameBits (9999+1) _ _=true
    simp only [Instr.sameBits]
    exact hs
   ·have:((⟨(sbytes l1 a).toArray⟩:ByteArray) == ⟨(sbytes l2 b).toArray⟩)=false:=by
     rw [beq_toListBytes,ByteArray.toList_eq,ByteArray.toList_eq,beq_eq_false_iff_ne]
     intro h
     have hl:=congrArg List.length h
     simp [sbytes_length] at hl
     subst hl
     exact e (by rw [sbytes_inj vx.2 vy.2 (by simpa using h)])
    simp only [Instr.sameNow,this]
def Ents (m:M) (es:List (V × V)) (ents:List MapEntry):Prop:=VRs m (es.map (·.1)) (ents.map (·.key))∧VRs m (es.map (·.2)) (ents.map (·.val))
theorem Ents.cons {m:M} {p:V × V} {es:List (V × V)} {ents:List MapEntry} (h:Ents m (p :: es) ents):∃ en r,ents=en :: r∧VR m p.1 en.key∧VR m p.2 en.val∧Ents m es r:=by
 obtain ⟨h1,h2⟩:=h
 simp only [List.map_cons,VRs] at h1 h2
 obtain ⟨c,r,h3,h4,h5⟩:=h1
 obtain ⟨c',r',h6,h7,h8⟩:=h2
 cases ents with
 | nil=>cases h3
 | cons en r0=>
  simp only [List.map_cons,List.cons.injEq] at h3 h6
  obtain ⟨rfl,rfl⟩:=h3
  obtain ⟨rfl,rfl⟩:=h6
  exact ⟨en,r0,rfl,h4,h7,h5,h8⟩
theorem Ents.mk {m:M} {p:V × V} {es:List (V × V)} {en:MapEntry} {r:List MapEntry} (h1:VR m p.1 en.key) (h2:VR m p.2 en.val) (h:Ents m es r):Ents m (p :: es) (en :: r):=by
 refine ⟨?_, ?_⟩ <;> simp only [List.map_cons,VRs]
 ·exact ⟨_,_,rfl,h1,h.1⟩
 ·exact ⟨_,_,rfl,h2,h.2⟩
theorem Ents.nil {m:M} {ents:List MapEntry} (h:Ents m [] ents):ents=[]:=by
 have:=h.1
 simp only [List.map_nil,VRs] at this
 simpa using this
theorem Ents.get {m:M}:∀ {es:List (V × V)} {ents:List MapEntry},Ents m es ents → ∀ {i:Nat} {p:V × V},es[i]? = some p → ∃ en,ents[i]? = some en∧VR m p.1 en.key∧VR m p.2 en.val
 | [],_,_,i,p,hi=>by simp at hi
 | q :: es,ents,h,i,p,hi=>by
  obtain ⟨en,r,rfl,e1,e2,e3⟩:=h.cons
  cases i with
  | zero=>simp at hi;subst hi;exact ⟨en,rfl,e1,e2⟩
  | succ i=>simp only [List.getElem?_cons_succ] at hi ⊢;exact Ents.get e3 hi
theorem Ents.length {m:M} {es:List (V × V)} {ents:List MapEntry} (h:Ents m es ents):ents.length=es.length:=by simpa using h.1.length
theorem Ents.set {m:M} {p:V × V} {en:MapEntry} (h1:VR m p.1 en.key) (h2:VR m p.2 en.val):∀ {es:List (V × V)} {ents:List MapEntry} {i:Nat},Ents m es ents→Ents m (es.set i p) (ents.set i en)
 | [],_,_,h=>by rw [h.nil];exact ⟨by simp only [List.set_nil,List.eraseIdx_nil,List.map_nil,VRs],by simp only [List.set_nil,List.eraseIdx_nil,List.map_nil,VRs]⟩
 | q :: es,ents,i,h=>by
  obtain ⟨e,r,rfl,e1,e2,e3⟩:=h.cons
  cases i with
  | zero=>exact Ents.mk h1 h2 e3
  | succ i=>exact Ents.mk e1 e2 (Ents.set h1 h2 e3)
theorem Ents.erase {m:M}:∀ {es:List (V × V)} {ents:List MapEntry} {i:Nat},Ents m es ents→Ents m (es.eraseIdx i) (ents.eraseIdx i)
 | [],_,_,h=>by rw [h.nil];exact ⟨by simp only [List.set_nil,List.eraseIdx_nil,List.map_nil,VRs],by simp only [List.set_nil,List.eraseIdx_nil,List.map_nil,VRs]⟩
 | q :: es,ents,i,h=>by
  obtain ⟨e,r,rfl,e1,e2,e3⟩:=h.cons
  cases i with
  | zero=>exact e3
  | succ i=>exact Ents.mk e1 e2 (Ents.erase e3)
theorem Ents.snoc {m:M} {p:V × V} {en:MapEntry} (h1:VR m p.1 en.key) (h2:VR m p.2 en.val):∀ {es:List (V × V)} {ents:List MapEntry},Ents m es ents→Ents m (es ++ [p]) (ents ++ [en])
 | [],_,h=>by rw [h.nil];exact Ents.mk h1 h2 ⟨by simp only [List.map_nil,VRs],by simp only [List.map_nil,VRs]⟩
 | q :: es,ents,h=>by
  obtain ⟨e,r,rfl,e1,e2,e3⟩:=h.cons
  exact Ents.mk e1 e2 (Ents.snoc h1 h2 e3)
theorem find_hit {ks:Bool} {x v:V} {m:M} {cx:Value} {d:TypeDesc} (vx:VR m x cx) (hd:KeyD ks d):∀ {es:List (V × V)} {ents:List MapEntry} (j:Nat),(x,v) ∈ es→(es.map (·.1)).Nodup→(∀ p ∈ es,KdK ks x p.1)→Ents m es ents →
  ∃ i cv en,Instr.findNow d cx ents j=some (some (j+i,cv))∧VR m v cv∧es[i]? = some (x,v)∧ents[i]? = some en∧Instr.sameBits 10000 en.key cx=true
 | [],_,_,h,_,_,_=>by cases h
 | (a,u) :: es,ents,j,h,hn,hk,he=>by
  obtain ⟨en,r,rfl,e1,e2,e3⟩:=he.cons
  obtain ⟨g1,g2⟩:=key_same (hk _ (List.mem_cons_self ..)) vx e1 hd
  rw [List.map_cons,List.nodup_cons] at hn
  rcases List.mem_cons.1 h with h | h
  ·cases h
   obtain ⟨g3,g4⟩:=g1 rfl
   exact ⟨0,en.val,en,by simp only [Instr.findNow,g3,Nat.add_zero],e2,rfl,rfl,g4⟩
  ·have hne:x≠a:=fun e=>hn.1 (List.mem_map.2 ⟨(x,v),h,e⟩)
   obtain ⟨i,cv,en',g3,g4,g5,g6,g7⟩:=find_hit vx hd (j+1) h hn.2 (fun p hp=>hk p (List.mem_cons_of_mem _ hp)) e3
   exact ⟨i+1,cv,en',by simp only [Instr.findNow,g2 hne,g3];rw [show j+1+i=j+(i+1) by omega],g4,by simpa using g5,by simpa using g6,g7⟩
theorem find_miss {ks:Bool} {x:V} {m:M} {cx:Value} {d:TypeDesc} (vx:VR m x cx) (hd:KeyD ks d):∀ {es:List (V × V)} {ents:List MapEntry} (j:Nat),(∀ p ∈ es,p.1≠x)→(∀ p ∈ es,KdK ks x p.1)→Ents m es ents→Instr.findNow d cx ents j=some none
 | [],_,_,_,_,he=>by rw [he.nil];rfl
 | (a,u) :: es,ents,j,h,hk,he=>by
  obtain ⟨en,r,rfl,e1,e2,e3⟩:=he.cons
  obtain ⟨_,g2⟩:=key_same (hk _ (List.mem_cons_self ..)) vx e1 hd
  have hne:x≠a:=fun e=>h _ (List.mem_cons_self ..) e.symm
  simp only [Instr.findNow,g2 hne,find_miss vx hd (j+1) (fun p hp=>h p (List.mem_cons_of_mem _ hp)) (fun p hp=>hk p (List.mem_cons_of_mem _ hp)) e3]
theorem KeysOK.tail {a:V} {l:List V} (h:KeysOK (a :: l)):KeysOK l:=⟨(List.nodup_cons.1 h.1).2,fun x hx y hy=>h.2 x (List.mem_cons_of_mem _ hx) y (List.mem_cons_of_mem _ hy)⟩
theorem KeysOK.perm {l m:List V} (h:KeysOK l) (hp:l.Perm m):KeysOK m:=⟨hp.nodup_iff.1 h.1,fun x hx y hy=>h.2 x (hp.mem_iff.2 hx) y (hp.mem_iff.2 hy)⟩
theorem kd_all {ks:Bool} {x:V} {es:List (V × V)} (h:es=[] ∨ ∃ p ∈ es,KdK ks x p.1) (ho:KeysOK (es.map (·.1))):∀ p ∈ es,KdK ks x p.1:=fun p hp=>by
 rcases h with rfl | ⟨q,hq,h⟩
 ·cases hp
 ·exact h.trans (ho.2 q.1 (List.mem_map.2 ⟨q,hq,rfl⟩) p.1 (List.mem_map.2 ⟨p,hp,rfl⟩))
theorem lookL_ok {ks:Bool} {x:V} {f:V→R} {z:R}:∀ {es:List (V × V)},lookL id ks es x f z=1→(es=[] ∨ ∃ p ∈ es,KdK ks x p.1)∧((∃ v,f v=1∧(x,v) ∈ es)∨(z=1 ∧ ∀ p ∈ es,p.1≠x))
 | [],h=>⟨Or.inl rfl,Or.inr ⟨h,fun p h=>by cases h⟩⟩
 | (a,v) :: es,h=>by
  have h':keyEq id ks x a (fun b=>ifB b (f v) (lookL id ks es x f z))=1:=h
  obtain ⟨b,h1,h2,h3,h4⟩:=keyEq_ok h'
  refine ⟨Or.inr ⟨_,List.mem_cons_self ..,h4⟩, ?_⟩
  rcases ifB_or h1 with ⟨rfl,h5⟩ | ⟨rfl,h5⟩
  ·exact Or.inl ⟨v,h5,by rw [h2 rfl];exact List.mem_cons_self ..⟩
  ·rcases (lookL_ok h5).2 with ⟨v',h6,h7⟩ | ⟨h6,h7⟩
   ·exact Or.inl ⟨v',h6,List.mem_cons_of_mem _ h7⟩
   ·exact Or.inr ⟨h6,fun p hp=>(List.mem_cons.1 hp).elim (fun e=>e ▸ (h3 rfl).symm) (h7 p)⟩
theorem run_checkKey {b:Bool} {t:TypeId} {d:TypeDesc} {ks:Bool} {c:Value} {w:World} (hu:P.underlying t=some d) (hd:KeyD ks d):(Instr.checkKey b 10000 t c).run P w = .ok () w:=by
 show (Instr.checkKey b (9999+1) t c).run P w=_
 generalize 9999=dd
 rcases hd with ⟨_,q,rfl⟩ | ⟨_,rfl⟩ <;> simp only [Instr.checkKey,Sem.run_bind,run_underlying hu,Result.andThen_ok,Sem.run_pure]
theorem run_findKey {t:TypeId} {d:TypeDesc} {c:Value} {ents:List MapEntry} {r:Option (Nat × Value)} {w:World} (hu:P.underlying t=some d) (h:Instr.findNow d c ents 0=some r):(Instr.findKey t c ents).run P w = .ok r w:=by
 simp [Instr.findKey,run_underlying hu,h]
theorem PR.map_at {base:Nat} {w0 w:World} {rho:Nat→Option Nat} (hp:PR P base w0 rho H w) {b c:Nat} {es:List (V × V)} (hb:H.get b = .map es) (hm:(mu rho H w).b b c):rho b=some c ∧ ∃ ents clock es',w.heap[c]? = some (.map ents clock)∧es'.Perm es∧KeysOK (es.map (·.1))∧Ents (mu rho H w) es' ents.toList∧Stamps ents clock:=by
 have hr:rho b=some c:=hm.2 (by rw [hb];trivial)
 obtain ⟨o,h1,h2⟩:=hp.blk b c hr
 rw [hb] at h2
 obtain ⟨ents,clock,es',rfl,h5,h6,h7,h3,h4⟩:=h2
 exact ⟨hr,ents,clock,es',h1,h5,h6,⟨h3,h4⟩,h7⟩
theorem keys_perm {es es':List (V × V)} (h:es'.Perm es) (ho:KeysOK (es.map (·.1))):KeysOK (es'.map (·.1)):=ho.perm (h.symm.map _)
theorem run_getObj {c:Nat} {ob:Obj} {w:World} (h:w.heap[c]? = some ob) (hn:∀ a b d,ob ≠ .cells a b d):(getObj c).run P w = .ok ob w:=by
 unfold getObj
 unfold Sem.run
 rw [h]
 cases ob <;> first | rfl | exact absurd rfl (hn _ _ _)
theorem run_setObj {c:Nat} {ob o':Obj} {w:World} (h:w.heap[c]? = some ob) (hn:∀ a b d,ob ≠ .cells a b d):(setObj c o').run P w = .ok () { w with heap:=w.heap.setIfInBounds c o' }:=by
 unfold setObj
 unfold Sem.run
 rw [h]
 cases ob <;> first | rfl | exact absurd rfl (hn _ _ _)
theorem zeroV_ok {t:TypeId} {z:V} (h:zeroV P t=some z):∃ i zv,P.info? t=some i∧i.zero=some zv ∧ ∀ m,VR m z zv:=by
 unfold zeroV at h
 split at h
 ·rename_i i hi
  split at h
  ·rename_i zv hz
   exact ⟨i,zv,hi,hz,fun m=>constV_ok h⟩
  ·cases h
 ·cases h
theorem s_lookup {t:TypeId} {mm x:Operand} {ok:Bool} (hop:o.op = .lookup t mm x ok) (h:evOp (compOp P nt o) id ph e H k=1):Good P nt o e H k:=by
 simp only [compOp,hop] at h
 have mem:mm ∈ o.op.operands∧x ∈ o.op.operands:=by simp [hop,Op.operands]
 have hnd:∀ c,o.op ≠ .defer c:=by simp [hop]
 split at h
 ·rename_i m' x' kt el hm hx hu
  split at h
  ·rename_i z ks hz hks
   obtain ⟨d,hd1,hd2⟩:=keyT_ok hks
   obtain ⟨i,zv,hi,hzv,hzr⟩:=zeroV_ok hz
   have h':eLook ks z ok m' x' id ph e H k=1:=h
   unfold eLook at h'
   rw [getA_eq,getA_eq] at h'
   have hzrun:∀ w:World,(zeroValue el).run P w = .ok zv w:=fun w=>by simp [zeroValue,typeInfo,hi,hzv]
   have fin0:ifB ok (k (.tup [z, .bool false]) H) (k z H)=1→(∀ (m:M) (w:World) (ac:Act),OR m nt e ac o→(execOp ac.eval o).run P w = .ok (.value (if ok then .tuple #[zv, .bool false] else zv)) w)→Good P nt o e H k:=by
    intro hk hrun
    rcases ifB_or hk with ⟨rfl,h1⟩ | ⟨rfl,h1⟩
    ·exact ⟨_,_,OpS.of_pure hnd fun m w ac ho=>⟨_,hrun m w ac ho,by simp only [if_true,VR];exact ⟨_,rfl,by simp only [VRs];exact ⟨_,_,rfl,hzr m,_,_,rfl,by simp only [VR],rfl⟩⟩⟩,h1⟩
    ·exact ⟨_,_,OpS.of_pure hnd fun m w ac ho=>⟨_,hrun m w ac ho,by simpa using hzr m⟩,h1⟩
   rcases vMapN_ok h' with ⟨b,hb,h1⟩ | ⟨hb,h1⟩
   ·rw [hGet_eq] at h1
    obtain ⟨es,hes,h2⟩:=bMap_ok h1
    obtain ⟨hkd,h2⟩:=lookL_ok h2
    rcases h2 with ⟨v,h3,h4⟩ | ⟨h3,h4⟩
    ·have hrun:∀ (base:Nat) (w0:World) (rho:Nat→Option Nat) (w:World) (a:Act),PR P base w0 rho H w→OR (mu rho H w) nt e a o → ∃ cv,VR (mu rho H w) v cv∧(execOp a.eval o).run P w = .ok (.value (if ok then .tuple #[cv, .bool true] else cv)) w:=by
      intro base w0 rho w a hp ho
      have vm:=ho mm mem.1 m' hm
      rw [hb] at vm
      simp only [VR] at vm
      obtain ⟨c,hc,hmu⟩:=vm
      obtain ⟨_,ents,clock,es',g1,gp,go,g2,_⟩:=hp.map_at hes hmu
      have hka:=kd_all hkd go
      obtain ⟨i',cv,en,g3,g4,_⟩:=find_hit (ho x mem.2 x' hx) hd2 0 (gp.mem_iff.2 h4) (keys_perm gp go).1 (fun p hp=>hka p (gp.mem_iff.1 hp)) g2
      refine ⟨cv,g4, ?_⟩
      simp only [execOp,hop,hc,Instr.lookup,Sem.run_bind,run_underlying hu,Result.andThen_ok,run_getObj g1 (by simp),Sem.run_pure,run_checkKey hd1 hd2,run_findKey hd1 g3]
     rcases ifB_or h3 with ⟨rfl,h5⟩ | ⟨rfl,h5⟩
     ·refine ⟨_,_,OpS.of_run hnd fun base w0 rho w a hp ho => ?_,h5⟩
      obtain ⟨cv,g1,g2⟩:=hrun base w0 rho w a hp ho
      exact ⟨_,w,g2,rho,by simp only [if_true,VR];exact ⟨_,rfl,by simp only [VRs];exact ⟨_,_,rfl,g1,_,_,rfl,by simp only [VR],rfl⟩⟩,hp,Ext.refl hp.lt⟩
     ·refine ⟨_,_,OpS.of_run hnd fun base w0 rho w a hp ho => ?_,h5⟩
      obtain ⟨cv,g1,g2⟩:=hrun base w0 rho w a hp ho
      exact ⟨_,w,g2,rho,by simpa using g1,hp,Ext.refl hp.lt⟩
    ·have hrun:∀ (base:Nat) (w0:World) (rho:Nat→Option Nat) (w:World) (a:Act),PR P base w0 rho H w→OR (mu rho H w) nt e a o→(execOp a.eval o).run P w = .ok (.value (if ok then .tuple #[zv, .bool false] else zv)) w:=by
      intro base w0 rho w a hp ho
      have vm:=ho mm mem.1 m' hm
      rw [hb] at vm
      simp only [VR] at vm
      obtain ⟨c,hc,hmu⟩:=vm
      obtain ⟨_,ents,clock,es',g1,gp,go,g2,_⟩:=hp.map_at hes hmu
      have hka:=kd_all hkd go
      have g3:=find_miss (ho x mem.2 x' hx) hd2 0 (fun p hp=>h4 p (gp.mem_iff.1 hp)) (fun p hp=>hka p (gp.mem_iff.1 hp)) g2
      simp only [execOp,hop,hc,Instr.lookup,Sem.run_bind,run_underlying hu,Result.andThen_ok,run_getObj g1 (by simp),Sem.run_pure,run_checkKey hd1 hd2,run_findKey hd1 g3,hzrun]
     rcases ifB_or h3 with ⟨rfl,h5⟩ | ⟨rfl,h5⟩
     ·exact ⟨_,_,OpS.of_run hnd fun base w0 rho w a hp ho=>⟨_,w,hrun base w0 rho w a hp ho,rho,by simp only [if_true,VR];exact ⟨_,rfl,by simp only [VRs];exact ⟨_,_,rfl,hzr _,_,_,rfl,by simp only [VR],rfl⟩⟩,hp,Ext.refl hp.lt⟩,h5⟩
     ·exact ⟨_,_,OpS.of_run hnd fun base w0 rho w a hp ho=>⟨_,w,hrun base w0 rho w a hp ho,rho,by simpa using hzr _,hp,Ext.refl hp.lt⟩,h5⟩
   ·refine fin0 h1 fun m w ac ho => ?_
    have vm:=ho mm mem.1 m' hm
    rw [hb] at vm
    simp only [VR] at vm
    simp only [execOp,hop,vm,Instr.lookup,Sem.run_bind,run_underlying hu,Result.andThen_ok,Sem.run_pure,run_checkKey hd1 hd2,run_findKey hd1 (show Instr.findNow d (ac.eval x) (#[]:Array MapEntry).toList 0=some none from rfl),hzrun]
  ·exact (no_ne h).elim
 ·exact (no_ne h).elim
theorem setL_ok {ks:Bool} {x y:V}:∀ {es:List (V × V)} {f:List (V × V)→R},setL id ks es x y f=1 → ∃ es2,f es2=1∧(es=[] ∨ ∃ p ∈ es,KdK ks x p.1)∧((∃ v rest,es.Perm ((x,v) :: rest)∧es2.Perm ((x,y) :: rest))∨((∀ p ∈ es,p.1≠x)∧es2.Perm ((x,y) :: es)))
 | [],f,h=>⟨_,h,Or.inl rfl,Or.inr ⟨fun p h=>(by cases h),List.Perm.refl _⟩⟩
 | (a,v) :: es,f,h=>by
  have h':keyEq id ks x a (fun b=>ifB b (f ((a,y) :: es)) (setL id ks es x y fun r=>f ((a,v) :: r)))=1:=h
  obtain ⟨b,h1,h2,h3,h4⟩:=keyEq_ok h'
  rcases ifB_or h1 with ⟨rfl,h5⟩ | ⟨rfl,h5⟩
  ·obtain rfl:=h2 rfl
   exact ⟨_,h5,Or.inr ⟨_,List.mem_cons_self ..,h4⟩,Or.inl ⟨v,es,List.Perm.refl _,List.Perm.refl _⟩⟩
  ·obtain ⟨es2,h6,_,h7⟩:=setL_ok h5
   refine ⟨_,h6,Or.inr ⟨_,List.mem_cons_self ..,h4⟩, ?_⟩
   rcases h7 with ⟨u,rest,h8,h9⟩ | ⟨h8,h9⟩
   ·exact Or.inl ⟨u,(a,v) :: rest,(h8.cons _).trans (List.Perm.swap ..),(h9.cons _).trans (List.Perm.swap ..)⟩
   ·exact Or.inr ⟨fun p hp=>(List.mem_cons.1 hp).elim (fun e=>e ▸ (h3 rfl).symm) (h8 p),(h9.cons _).trans (List.Perm.swap ..)⟩
theorem delL_ok {ks:Bool} {x:V}:∀ {es:List (V × V)} {f:List (V × V)→R},delL id ks es x f=1 → ∃ es2,f es2=1∧(es=[] ∨ ∃ p ∈ es,KdK ks x p.1)∧((∃ v,es.Perm ((x,v) :: es2))∨((∀ p ∈ es,p.1≠x)∧es2=es))
 | [],f,h=>⟨_,h,Or.inl rfl,Or.inr ⟨fun p h=>(by cases h),rfl⟩⟩
 | (a,v) :: es,f,h=>by
  have h':keyEq id ks x a (fun b=>ifB b (f es) (delL id ks es x fun r=>f ((a,v) :: r)))=1:=h
  obtain ⟨b,h1,h2,h3,h4⟩:=keyEq_ok h'
  rcases ifB_or h1 with ⟨rfl,h5⟩ | ⟨rfl,h5⟩
  ·obtain rfl:=h2 rfl
   exact ⟨_,h5,Or.inr ⟨_,List.mem_cons_self ..,h4⟩,Or.inl ⟨v,List.Perm.refl _⟩⟩
  ·obtain ⟨es2,h6,_,h7⟩:=delL_ok h5
   refine ⟨_,h6,Or.inr ⟨_,List.mem_cons_self ..,h4⟩, ?_⟩
   rcases h7 with ⟨u,h8⟩ | ⟨h8,rfl⟩
   ·exact Or.inl ⟨u,(h8.cons _).trans (List.Perm.swap ..)⟩
   ·exact Or.inr ⟨fun p hp=>(List.mem_cons.1 hp).elim (fun e=>e ▸ (h3 rfl).symm) (h8 p),rfl⟩
theorem perm_erase {α : Type}:∀ {l:List α} {i:Nat} {a : α},l[i]? = some a→l.Perm (a :: l.eraseIdx i)
 | [],i,a,h=>by simp at h
 | x :: l,0,a,h=>by
  simp at h
  subst h
  exact List.Perm.refl _
 | x :: l,i+1,a,h=>((perm_erase (l:=l) (i:=i) (by simpa using h)).cons x).trans (List.Perm.swap ..)
theorem perm_set {α : Type} {l:List α} {i:Nat} {a b : α} (h:l[i]? = some a):(l.set i b).Perm (b :: l.eraseIdx i):=by
 obtain ⟨hlt,_⟩:=List.getElem?_eq_some_iff.1 h
 have h1:(l.set i b)[i]? = some b:=by simp [hlt]
 have:=perm_erase h1
 rwa [List.eraseIdx_set_eq] at this
theorem keys_swap {x v y:V} {es es2 rest:List (V × V)} (h1:es.Perm ((x,v) :: rest)) (h2:es2.Perm ((x,y) :: rest)) (ho:KeysOK (es.map (·.1))):KeysOK (es2.map (·.1)):=by
 have h3:(es.map (·.1)).Perm (x :: rest.map (·.1)):=h1.map _
 have h4:(es2.map (·.1)).Perm (x :: rest.map (·.1)):=h2.map _
 exact ho.perm (h3.trans h4.symm)
theorem keys_new {ks:Bool} {x y:V} {es es2:List (V × V)} (h1:∀ p ∈ es,p.1≠x) (h2:es2.Perm ((x,y) :: es)) (hx:Kd x x) (hk:∀ p ∈ es,KdK ks x p.1) (ho:KeysOK (es.map (·.1))):KeysOK (es2.map (·.1)):=by
 have h4:(es2.map (·.1)).Perm (x :: es.map (·.1)):=h2.map _
 refine KeysOK.perm ⟨List.nodup_cons.2 ⟨fun h => ?_,ho.1⟩,fun a ha b hb => ?_⟩ h4.symm
 ·obtain ⟨p,hp,e⟩:=List.mem_map.1 h
  exact h1 p hp e
 ·have hxb:∀ c,c ∈ es.map (·.1)→Kd x c:=fun c hc=>by
   obtain ⟨p,hp,rfl⟩:=List.mem_map.1 hc
   exact (hk p hp).kd
  rcases List.mem_cons.1 ha with ea | ha <;> rcases List.mem_cons.1 hb with eb | hb
  ·rw [ea,eb];exact hx
  ·rw [ea];exact hxb _ hb
  ·rw [eb];exact (hxb _ ha).symm
  ·exact ho.2 a ha b hb
theorem stamps_set {ents ents2:Array MapEntry} {clock i:Nat} {en:MapEntry} {k v:Value} (hen:ents[i]? = some en) (h:Stamps ents clock) (h2:ents2.toList=ents.toList.set i { en with key:=k,val:=v }):Stamps ents2 clock:=by
 have hm:(ents.toList.set i { en with key:=k,val:=v }).map (·.born)=ents.toList.map (·.born):=by
  refine List.ext_getElem? fun j => ?_
  rw [List.getElem?_map,List.getElem?_map,List.getElem?_set]
  have hen':ents.toList[i]? = some en:=by simpa using hen
  by_cases hij:i=j
  ·subst hij
   have hlt:i<ents.toList.length:=(List.getElem?_eq_some_iff.1 hen').1
   simp only [if_true,hlt,hen',Option.map_some]
  ·rw [if_neg hij]
 refine ⟨by rw [h2,hm];exact h.1,fun q hq => ?_⟩
 have:q.born ∈ ents.toList.map (·.born):=by rw [← hm,← h2];exact List.mem_map.2 ⟨q,hq,rfl⟩
 obtain ⟨q',hq',e⟩:=List.mem_map.1 this
 rw [← e]
 exact h.2 q' hq'
theorem stamps_push {ents:Array MapEntry} {clock:Nat} {k v:Value} (h:Stamps ents clock):Stamps (ents.push { key:=k,val:=v,born:=clock }) (clock+1):=by
 unfold Stamps
 rw [Array.toList_push]
 refine ⟨?_,fun q hq => ?_⟩
 ·rw [List.map_append,List.nodup_append]
  refine ⟨h.1,by simp,fun a ha b hb e => ?_⟩
  obtain ⟨q,hq,rfl⟩:=List.mem_map.1 ha
  have:=h.2 q hq
  simp at hb
  omega
 ·rcases List.mem_append.1 hq with hq | hq
  ·have:=h.2 q hq;omega
  ·simp at hq;subst hq;exact Nat.lt_succ_self _
theorem stamps_erase {ents ents2:Array MapEntry} {clock i:Nat} (h:Stamps ents clock) (h2:ents2.toList=ents.toList.eraseIdx i):Stamps ents2 clock:=by
 have hs:(ents.toList.eraseIdx i).Sublist ents.toList:=List.eraseIdx_sublist ..
 exact ⟨by rw [h2];exact (hs.map _).nodup h.1,fun q hq=>h.2 q (hs.subset (by rw [← h2];exact hq))⟩
theorem PR.map_write {base:Nat} {w0 w:World} {rho:Nat→Option Nat} {H':Heap} (hp:PR P base w0 rho H w) {b c:Nat} {es es2 es':List (V × V)} {ents0 ents:Array MapEntry} {clock0 clock:Nat} (hb:H.get b = .map es) (hr:rho b=some c) (hw:w.heap[c]? = some (.map ents0 clock0)) (hS:SetTo H b (.map es2) H') (hperm:es'.Perm es2) (hok:KeysOK (es2.map (·.1))) (hst:Stamps ents clock) (he:Ents (mu rho H w) es' ents.toList) :
  PR P base w0 rho H' { w with heap:=w.heap.setIfInBounds c (.map ents clock) }∧Ext rho H w rho H' { w with heap:=w.heap.setIfInBounds c (.map ents clock) }:=by
 have hlt:c<w.heap.size:=(hp.dom b c hr).2.2.1
 exact hp.write (o := .map ents clock) hr (by rw [hb];intro e;cases e) hS.n hS.wlo hS.wb hS.get hS.oth trivial ⟨rfl,rfl,rfl⟩ (by simp) (by simp [hlt]) (fun j hj=>by simp [Array.getElem?_setIfInBounds_ne (Ne.symm hj)]) ⟨ents,clock,es',rfl,hperm,hok,hst,he.1,he.2⟩ (fun cs e fr h=>by rw [hw] at h;cases h) (fun r h=>by rw [hw] at h;cases h)
theorem isKey_ok {x:V} {k:R} (h:isKey id x k=1):Kd x x∧k=1:=by
 cases x <;> first | exact (no_ne h).elim | exact ⟨Or.inl ⟨_,_,_,rfl,rfl⟩,h⟩ | exact ⟨Or.inr ⟨_,_,_,_,rfl,rfl⟩,h⟩
theorem s_mapUpdate {t:TypeId} {mm x y:Operand} (hop:o.op = .mapUpdate t mm x y∨o.op = .insert t mm x y) (h:evOp (compOp P nt o) id ph e H k=1):Good P nt o e H k:=by
 have hc:compOp P nt o=match compArg nt mm,compArg nt x,compArg nt y,P.underlying t with
  | some m,some x,some y,some (.map kt _)=>(match keyT P kt with | some ks => .mset ks m x y | none => .bad)
  | _,_,_,_ => .bad:=by rcases hop with h | h <;> simp only [compOp,h] <;> rfl
 rw [hc] at h
 have mem:mm ∈ o.op.operands∧x ∈ o.op.operands∧y ∈ o.op.operands:=by rcases hop with h | h <;> simp [h,Op.operands]
 have hnd:∀ c,o.op ≠ .defer c:=by rcases hop with h | h <;> simp [h]
 split at h
 ·rename_i m' x' y' kt el hm hx hy hu
  split at h
  ·rename_i ks hks
   obtain ⟨d,hd1,hd2⟩:=keyT_ok hks
   have h':eMset ks m' x' y' id ph e H k=1:=h
   unfold eMset at h'
   rw [getA_eq,getA_eq,getA_eq] at h'
   obtain ⟨b,hb,h1⟩:=vMap_ok h'
   rw [hGet_eq] at h1
   obtain ⟨es,hes,h2⟩:=bMap_ok h1
   obtain ⟨hxs,h2⟩:=isKey_ok h2
   obtain ⟨es2,h3,hkd,h4⟩:=setL_ok h2
   obtain ⟨H',h5,h6⟩:=hSet_ok h3
   refine ⟨_,_,OpS.of_skip hnd fun base w0 rho w a hp ho => ?_,h5⟩
   have vm:=ho mm mem.1 m' hm
   rw [hb] at vm
   simp only [VR] at vm
   obtain ⟨c,hcm,hmu⟩:=vm
   obtain ⟨hr,ents,clock,es',g1,gp,go,g2,gs⟩:=hp.map_at hes hmu
   have hka:=kd_all hkd go
   have hka':∀ p ∈ es',KdK ks (pgetA x' e) p.1:=fun p hp=>hka p (gp.mem_iff.1 hp)
   have vx:=ho x mem.2.1 x' hx
   have vy:=ho y mem.2.2 y' hy
   have hex:(execOp a.eval o).run P w=((Instr.mapUpdate t (a.eval mm) (a.eval x) (a.eval y)).run P w).andThen fun _ w' => .ok .skip w':=by
    rcases hop with h | h <;> simp only [execOp,h,Sem.run_bind,Sem.run_pure]
   rcases h4 with ⟨v,rest,h7,h8⟩ | ⟨h7,h8⟩
   ·obtain ⟨i,cv,en,f1,f2,f3,f4,f5⟩:=find_hit vx hd2 0 ((gp.trans h7).mem_iff.2 (List.mem_cons_self ..)) (keys_perm gp go).1 hka' g2
    have hen:ents[i]? = some en:=by simpa using f4
    have hmod:(ents.modify i fun e => { e with key:=a.eval x,val:=a.eval y }).toList=ents.toList.set i { en with key:=a.eval x,val:=a.eval y }:=by
     rw [Array.toList_modify]
     refine List.ext_getElem? fun k => ?_
     rw [List.getElem?_modify,List.getElem?_set]
     by_cases hik:i=k
     ·subst hik
      have hlt:i<ents.toList.length:=(List.getElem?_eq_some_iff.1 f4).1
      simp only [if_true,f4,Option.map_some,hlt]
      simp
     ·simp [hik]
    obtain ⟨p1,p2⟩:=hp.map_write (ents:=ents.modify i fun e => { e with key:=a.eval x,val:=a.eval y }) (clock:=clock) (es':=es'.set i (pgetA x' e,pgetA y' e)) hes hr g1 h6
     ((perm_set f3).trans ((((perm_erase f3).symm.trans (gp.trans h7)).cons_inv.cons _).trans h8.symm)) (keys_swap h7 h8 go) (stamps_set hen gs hmod) (by rw [hmod];exact Ents.set vx vy g2)
    refine ⟨_, ?_,rho,p1,p2⟩
    rw [hex]
    simp only [hcm,Instr.mapUpdate,Sem.run_bind,run_underlying hu,Result.andThen_ok,run_getObj g1 (by simp),run_checkKey hd1 hd2,run_findKey hd1 f1,Nat.zero_add,hen,Option.map_some,Option.getD_some,Instr.keyThatStays,f5,if_true,Sem.run_pure,run_setObj g1 (by simp)]
   ·have f1:=find_miss vx hd2 0 (fun p hp=>h7 p (gp.mem_iff.1 hp)) hka' g2
    obtain ⟨p1,p2⟩:=hp.map_write (ents:=ents.push { key:=a.eval x,val:=a.eval y,born:=clock }) (clock:=clock+1) (es':=es' ++ [(pgetA x' e,pgetA y' e)]) hes hr g1 h6
     (List.perm_append_singleton _ _ |>.trans ((gp.cons _).trans h8.symm)) (keys_new h7 h8 hxs hka go) (stamps_push gs) (by rw [Array.toList_push];exact Ents.snoc vx vy g2)
    refine ⟨_, ?_,rho,p1,p2⟩
    rw [hex]
    simp only [hcm,Instr.mapUpdate,Sem.run_bind,run_underlying hu,Result.andThen_ok,run_getObj g1 (by simp),run_checkKey hd1 hd2,run_findKey hd1 f1,run_setObj g1 (by simp)]
  ·exact (no_ne h).elim
 ·exact (no_ne h).elim
end
end Go.Ev
end
section
namespace Go.Ev
open Go.RowKit
section
variable {P:Program} {nt:Nat} {o:Oper} {id:Nat} {ph:Phi} {e:Env} {H:Heap} {k:K}
theorem FSp.op {x:V} {args:List V} {v:V} {H':Heap} {f:Operand} {as:Array Operand} {ts:Array TypeId} (h:FSp P x args H v H') (hop:o.op = .call { callee := .value f,args:=as,argTypes:=ts })
  (hx:∀ (m:M) (ac:Act),OR m nt e ac o→VR m x (ac.eval f)) (ha:∀ (m:M) (ac:Act),OR m nt e ac o→VRs m args (as.map ac.eval).toList):OpS P nt o e H v H':=by
 intro rd base w0 rho w a hp ho
 refine ⟨about_any P o a w rd, ?_⟩
 rw [semAt_eq (by simp [hop])]
 have hex:execOp a.eval o=(do let d ← Deferred.ofValue (a.eval f) (as.map a.eval);invoke d.target d.args):=by
  simp only [execOp,hop]
  rfl
 rw [hex]
 exact h rd base w0 rho w (a.eval f) (as.map a.eval) hp (hx _ _ ho) (ha _ _ ho) o a
theorem s_callFunc (hph:PhiOK P ph) {f:FuncId} {as:Array Operand} {ts:Array TypeId} (hop:o.op = .call { callee := .value (.func f),args:=as,argTypes:=ts }) (h:evOp (compOp P nt o) id ph e H k=1):Good P nt o e H k:=by
 simp only [compOp,hop] at h
 split at h
 ·rename_i l _ hl hf
  have h':eCall (2 * f) l id ph e H k=1:=h
  unfold eCall at h'
  rw [getAs_eq] at h'
  obtain ⟨v,H',h1,h2⟩:=hph _ _ _ _ h'
  refine ⟨v,H',h1.1.op hop (fun m ac ho=>by simp only [Act.eval,VR];exact ⟨#[],by simp,by simp only [VRs]⟩) (fun m ac ho => ?_),h2⟩
  have:=compArgs_ok (e:=e) (m:=m) (ac:=ac) hl fun x hx=>ho x (by simp [hop,Op.operands,Call.operands];right;simpa using hx)
  simpa using this
 ·exact (no_ne h).elim
theorem s_callVal (hph:PhiOK P ph) {t:Tmp} {as:Array Operand} {ts:Array TypeId} (hop:o.op = .call { callee := .value (.tmp t),args:=as,argTypes:=ts }) (h:evOp (compOp P nt o) id ph e H k=1):Good P nt o e H k:=by
 simp only [compOp,hop] at h
 split at h
 ·rename_i x l hx hl
  have h':eCallV x l id ph e H k=1:=h
  unfold eCallV at h'
  rw [getA_eq,getAs_eq] at h'
  obtain ⟨v,H',h1,h2⟩:=hph _ _ _ _ h'
  refine ⟨v,H',h1.1.op hop (fun m ac ho=>ho _ (by simp [hop,Op.operands,Call.operands]) x hx) (fun m ac ho => ?_),h2⟩
  have:=compArgs_ok (e:=e) (m:=m) (ac:=ac) hl fun x hx=>ho x (by simp [hop,Op.operands,Call.operands];right;simpa using hx)
  simpa using this
 ·exact (no_ne h).elim
theorem builtin_ex {b:Builtin} {as:Array Operand} {ts:Array TypeId} (hop:o.op = .call { callee := .builtin b,args:=as,argTypes:=ts }) (r:Operand→Value) :
  execOp r o=builtin b ts o.type (as.map fun | .const _=>true | _=>false) (as.map r):=by
 simp only [execOp,hop]
 rfl
theorem args1 {as:Array Operand} {x:Arg} (h:compArgs nt as.toList=some [x]):∃ y,as = #[y]∧compArg nt y=some x:=by
 obtain ⟨l⟩:=as
 cases l with
 | nil=>simp [compArgs] at h
 | cons y l=>
  cases l with
  | nil=>
   simp only [compArgs] at h
   split at h
   ·rename_i a r h1 h2
    simp at h h2
    subst h2
    simp at h
    subst h
    exact ⟨y,rfl,h1⟩
   ·cases h
  | cons z l=>
   simp only [compArgs] at h
   split at h
   ·rename_i a r h1 h2
    split at h2
    ·rename_i a' r' h3 h4
     cases h2
     simp at h
    ·cases h2
   ·cases h
theorem args2 {as:Array Operand} {x y:Arg} (h:compArgs nt as.toList=some [x,y]):∃ p q,as = #[p,q]∧compArg nt p=some x∧compArg nt q=some y:=by
 obtain ⟨l⟩:=as
 cases l with
 | nil=>simp [compArgs] at h
 | cons p l=>
  simp only [compArgs] at h
  split at h
  ·rename_i a r h1 h2
   simp at h
   obtain ⟨rfl,rfl⟩:=h
   obtain ⟨q,hq,h3⟩:=args1 (as:=⟨l⟩) h2
   cases hq
   exact ⟨p,q,rfl,h1,h3⟩
  ·cases h
theorem args3 {as:Array Operand} {x y z:Arg} (h:compArgs nt as.toList=some [x,y,z]):∃ p q r,as = #[p,q,r]∧compArg nt p=some x∧compArg nt q=some y∧compArg nt r=some z:=by
 obtain ⟨l⟩:=as
 cases l with
 | nil=>simp [compArgs] at h
 | cons p l=>
  simp only [compArgs] at h
  split at h
  ·rename_i a r h1 h2
   simp at h
   obtain ⟨rfl,rfl⟩:=h
   obtain ⟨q,r,hq,h3,h4⟩:=args2 (as:=⟨l⟩) h2
   cases hq
   exact ⟨p,q,r,rfl,h1,h3,h4⟩
  ·cases h
theorem toI_64' {n:Nat} (h:n<9223372036854775808):toI .i64 n=n:=toI_small _ _ (by simp [half,IntKind.signed,IntKind.bits];omega)
theorem vr_goInt {m:M} {n:Nat} (h:n<9223372036854775808):VR m (.int 3 n) (goInt n):=by
 simp only [VR]
 exact ⟨by show Value.int .i64 (n:Int)=Value.int .i64 (toI .i64 n);rw [toI_64' h],by show n<2 ^ 64;omega,by omega⟩
theorem lenM_eq:∀ es:List (V × V),lenM es=es.length
 | []=>rfl
 | _ :: es=>congrArg Nat.succ (lenM_eq es)
theorem lenSL_ok {x:V} {f:Nat→R} (h:lenSL id x f=1):∃ n,f n=1 ∧ ∀ (m:M) (c:Value),VR m x c → ∀ w:World,(Builtin.lenOf c).run P w = .ok n w:=by
 cases x <;> first | exact (no_ne h).elim | skip
 ·exact ⟨_,h,fun m c v w=>by simp only [VR] at v;rw [v.1];simp [Builtin.lenOf,ByteArray.size,sbytes_length]⟩
 ·exact ⟨_,h,fun m c v w=>by simp only [VR] at v;obtain ⟨c1,cap,o',sp,rfl,_⟩:=v;rfl⟩
 ·exact ⟨_,h,fun m c v w=>by simp only [VR] at v;rw [v];rfl⟩
theorem lenR_ok {n:Nat} (h:lenR id n H k=1):n<9223372036854775808∧k (.int 3 n) H=1:=by
 obtain ⟨h1,h2⟩:=ifB_no h
 exact ⟨blt_of h1,h2⟩
theorem s_len {as:Array Operand} {ts:Array TypeId} (hop:o.op = .call { callee := .builtin .len,args:=as,argTypes:=ts }) (h:evOp (compOp P nt o) id ph e H k=1):Good P nt o e H k:=by
 simp only [compOp,hop,compBuiltin] at h
 have hnd:∀ c,o.op ≠ .defer c:=by simp [hop]
 split at h
 ·rename_i x t tr hx hts
  obtain ⟨y,rfl,hy⟩:=args1 hx
  have hts':ts[0]? = some t:=by rw [← Array.getElem?_toList,hts];rfl
  have fin:∀ n:Nat,n<9223372036854775808→k (.int 3 n) H=1→(∀ (base:Nat) (w0:World) (rho:Nat→Option Nat) (w:World) (a:Act),PR P base w0 rho H w→VR (mu rho H w) (pgetA x e) (a.eval y)→(Builtin.len_ ts o.type #[a.eval y]).run P w = .ok (goInt n) w)→Good P nt o e H k:=by
   intro n hn hk hr
   refine ⟨_,_,OpS.of_run hnd fun base w0 rho w a hp ho => ?_,hk⟩
   have v:=ho y (by simp [hop,Op.operands,Call.operands]) x hy
   refine ⟨goInt n,w, ?_,rho,vr_goInt hn,hp,Ext.refl hp.lt⟩
   rw [builtin_ex hop a.eval]
   simp [builtin,hr base w0 rho w a hp v]
  split at h
  ·rename_i hu
   have h':eLenS x id ph e H k=1:=h
   unfold eLenS at h'
   rw [getA_eq] at h'
   obtain ⟨l,q,hq,h1⟩:=vStr_ok h'
   obtain ⟨h2,h3⟩:=lenR_ok h1
   refine fin l h2 h3 fun base w0 rho w a hp v => ?_
   rw [hq] at v
   simp only [VR] at v
   have hs:(⟨(sbytes l q).toArray⟩:ByteArray).size=l:=by simp [ByteArray.size,sbytes_length]
   simp [Builtin.len_,hts',run_underlying hu,v.1,hs]
  ·rename_i el hu
   have h':eLenL x id ph e H k=1:=h
   unfold eLenL at h'
   rw [getA_eq] at h'
   rcases vSliceN_ok h' with ⟨b,off,l,cp,sz,hq,h1⟩ | ⟨hq,h1⟩
   ·obtain ⟨h2,h3⟩:=lenR_ok h1
    refine fin l h2 h3 fun base w0 rho w a hp v => ?_
    rw [hq] at v
    simp only [VR] at v
    obtain ⟨c1,cap,o',sp,hc,_⟩:=v
    simp [Builtin.len_,hts',run_underlying hu,hc]
   ·obtain ⟨h2,h3⟩:=lenR_ok h1
    refine fin 0 h2 h3 fun base w0 rho w a hp v => ?_
    rw [hq] at v
    simp only [VR] at v
    simp [Builtin.len_,hts',run_underlying hu,v]
  ·rename_i kt el hu
   have h':eLenM x id ph e H k=1:=h
   unfold eLenM at h'
   rw [getA_eq] at h'
   rcases vMapN_ok h' with ⟨b,hq,h1⟩ | ⟨hq,h1⟩
   ·rw [hGet_eq] at h1
    obtain ⟨es,hes,h2⟩:=bMap_ok h1
    rw [forceN_eq,lenM_eq] at h2
    obtain ⟨h3,h4⟩:=lenR_ok h2
    refine fin _ h3 h4 fun base w0 rho w a hp v => ?_
    rw [hq] at v
    simp only [VR] at v
    obtain ⟨c,hc,hmu⟩:=v
    obtain ⟨hr,ents,clock,es',g1,gp,go,g2,_⟩:=hp.map_at hes hmu
    have hl:ents.size=es.length:=by have:=g2.1.length;rw [← gp.length_eq];simpa using this
    simp [Builtin.len_,hts',run_underlying hu,hc,run_getObj g1,hl]
   ·obtain ⟨h2,h3⟩:=lenR_ok h1
    refine fin 0 h2 h3 fun base w0 rho w a hp v => ?_
    rw [hq] at v
    simp only [VR] at v
    simp [Builtin.len_,hts',run_underlying hu,v]
  ·exact (no_ne h).elim
 ·exact (no_ne h).elim
theorem sliceT_ok {t el:TypeId} (h:sliceT P t=some el):P.underlying t=some (.slice el):=by
 unfold sliceT at h
 split at h
 ·rename_i hu;cases h;exact hu
 ·cases h
theorem s_cap {as:Array Operand} {ts:Array TypeId} (hop:o.op = .call { callee := .builtin .cap,args:=as,argTypes:=ts }) (h:evOp (compOp P nt o) id ph e H k=1):Good P nt o e H k:=by
 simp only [compOp,hop,compBuiltin] at h
 have hnd:∀ c,o.op ≠ .defer c:=by simp [hop]
 split at h
 ·rename_i x t tr hx hts
  obtain ⟨y,rfl,hy⟩:=args1 hx
  have hts':ts[0]? = some t:=by rw [← Array.getElem?_toList,hts];rfl
  split at h
  ·rename_i el hel
   have hu:=sliceT_ok hel
   have h':eCap x id ph e H k=1:=h
   unfold eCap at h'
   rw [getA_eq] at h'
   have fin:∀ n:Nat,n<9223372036854775808→k (.int 3 n) H=1→(∀ (m:M) (w:World) (a:Act),VR m (pgetA x e) (a.eval y)→(Builtin.cap_ ts o.type #[a.eval y]).run P w = .ok (goInt n) w)→Good P nt o e H k:=by
    intro n hn hk hr
    refine ⟨_,_,OpS.of_pure hnd fun m w a ho => ?_,hk⟩
    have v:=ho y (by simp [hop,Op.operands,Call.operands]) x hy
    refine ⟨goInt n, ?_,vr_goInt hn⟩
    rw [builtin_ex hop a.eval]
    simp [builtin,hr m w a v]
   rcases vSliceN_ok h' with ⟨b,off,l,cp,sz,hq,h1⟩ | ⟨hq,h1⟩
   ·cases cp with
    | zero=>exact (no_ne h1).elim
    | succ q=>
     obtain ⟨h2,h3⟩:=ifB_no (show ifB (Nat.blt q 9223372036854775808) (k (.int 3 q) H) (no _)=1 from h1)
     refine fin q (blt_of h2) h3 fun m w a v => ?_
     rw [hq] at v
     simp only [VR] at v
     obtain ⟨c1,cap,o',sp,hc,_,_,hcp,_⟩:=v
     have:=hcp.1 q rfl
     subst this
     simp [Builtin.cap_,hts',run_underlying hu,hc]
   ·refine fin 0 (by omega) h1 fun m w a v => ?_
    rw [hq] at v
    simp only [VR] at v
    simp [Builtin.cap_,hts',run_underlying hu,v]
  ·exact (no_ne h).elim
 ·exact (no_ne h).elim
theorem eMm_ok {kd oo mo:Nat} {mx:Bool} {x y:Arg} (h:eMm kd oo mo mx x y id ph e H k=1):∃ a b,pgetA x e = .int kd a∧pgetA y e = .int kd b∧k (.int kd (if mx then (if (a+oo) % mo≤(b+oo) % mo then b else a) else (if (a+oo) % mo≤(b+oo) % mo then a else b))) H=1:=by
 unfold eMm at h
 rw [getA_eq] at h
 obtain ⟨k1,a,ha,h1⟩:=vInt_ok h
 rw [getA_eq] at h1
 obtain ⟨k2,b,hb,h2⟩:=vInt_ok h1
 obtain ⟨h3,h4⟩:=ifB_no h2
 obtain ⟨h5,h6⟩:=ifB_no h4
 have e1:=beq_of h3
 have e2:=beq_of h5
 subst e1 e2
 refine ⟨a,b,ha,hb, ?_⟩
 rcases ifB_or h6 with ⟨h7,h8⟩ | ⟨h7,h8⟩
 ·have hle:(a+oo) % mo≤(b+oo) % mo:=ble_of h7
  rcases ifB_or h8 with ⟨h9,h10⟩ | ⟨h9,h10⟩ <;> subst h9 <;> simpa [hle] using h10
 ·have hle:¬ (a+oo) % mo≤(b+oo) % mo:=fun hle=>by
   have:Nat.ble ((a.add oo).mod mo) ((b.add oo).mod mo)=true:=Nat.ble_eq_true_of_le hle
   rw [this] at h7;cases h7
  rcases ifB_or h8 with ⟨h9,h10⟩ | ⟨h9,h10⟩ <;> subst h9 <;> simpa [hle] using h10
def mmN (mx:Bool) (oo mo a b:Nat):Nat:=if mx then (if (a+oo) % mo≤(b+oo) % mo then b else a) else (if (a+oo) % mo≤(b+oo) % mo then a else b)
theorem mmN_or (mx:Bool) (oo mo a b:Nat):mmN mx oo mo a b=a∨mmN mx oo mo a b=b:=by
 unfold mmN
 split <;> split <;> simp
theorem pick2_eq {oo mo:Nat} {mx:Bool} {a b:Nat} {f:Nat→R}:pick2 oo mo mx a b f=f (mmN mx oo mo a b):=by
 unfold pick2 mmN
 have hb:(Nat.ble ((a.add oo).mod mo) ((b.add oo).mod mo)=true)↔(a+oo) % mo≤(b+oo) % mo:=⟨fun h=>Nat.le_of_ble_eq_true h,fun h=>Nat.ble_eq_true_of_le h⟩
 by_cases hle:(a+oo) % mo≤(b+oo) % mo
 ·rw [hb.2 hle]
  cases mx
  ·simp only [Bool.false_eq_true,if_false,if_pos hle];rfl
  ·simp only [if_true,if_pos hle];rfl
 ·have:Nat.ble ((a.add oo).mod mo) ((b.add oo).mod mo)=false:=by
   cases hc:Nat.ble ((a.add oo).mod mo) ((b.add oo).mod mo) with
   | false=>rfl
   | true=>exact absurd (hb.1 hc) hle
  rw [this]
  cases mx
  ·simp only [Bool.false_eq_true,if_false,if_neg hle];rfl
  ·simp only [if_true,if_neg hle];rfl
theorem run_mm2 {kx:IntKind} {a b:Nat} (mx:Bool) (ha:a<kMod kx) (hb:b<kMod kx):(if mx then Builtin.max2 else Builtin.min2) (.int kx (toI kx a)) (.int kx (toI kx b))=pure (.int kx (toI kx (mmN mx (offK kx) (2 ^ kx.bits) a b))):=by
 have oa:=toI_off kx a ha
 have ob:=toI_off kx b hb
 have hcmp:toI kx b > toI kx a ↔ ¬ (b+offK kx) % 2 ^ kx.bits≤(a+offK kx) % 2 ^ kx.bits:=by rw [oa,ob];omega
 have hcmp2:toI kx b<toI kx a ↔ ¬ (a+offK kx) % 2 ^ kx.bits≤(b+offK kx) % 2 ^ kx.bits:=by rw [oa,ob];omega
 have heq:(a+offK kx) % 2 ^ kx.bits=(b+offK kx) % 2 ^ kx.bits→toI kx a=toI kx b:=fun e=>by rw [oa,ob,e]
 cases mx
 ·simp only [Bool.false_eq_true,if_false,Builtin.min2,mmN]
  congr 2
  by_cases hle:(a+offK kx) % 2 ^ kx.bits≤(b+offK kx) % 2 ^ kx.bits
  ·rw [if_neg (fun hlt=>(hcmp2.1 hlt) hle),if_pos hle]
  ·rw [if_pos (hcmp2.2 hle),if_neg hle]
 ·simp only [if_true,Builtin.max2,mmN]
  congr 2
  by_cases hle:(a+offK kx) % 2 ^ kx.bits≤(b+offK kx) % 2 ^ kx.bits
  ·rw [if_pos hle]
   by_cases hge:(b+offK kx) % 2 ^ kx.bits≤(a+offK kx) % 2 ^ kx.bits
   ·rw [if_neg (fun hlt=>(hcmp.1 hlt) hge)];exact heq (Nat.le_antisymm hle hge)
   ·rw [if_pos (hcmp.2 hge)]
  ·rw [if_neg hle,if_neg (fun hlt=>(hcmp.1 hlt) (by omega))]
theorem eMm3_ok {kd oo mo:Nat} {mx:Bool} {x y z:Arg} (h:eMm3 kd oo mo mx x y z id ph e H k=1):∃ a b c,pgetA x e = .int kd a∧pgetA y e = .int kd b∧pgetA z e = .int kd c∧k (.int kd (mmN mx oo mo (mmN mx oo mo a b) c)) H=1:=by
 unfold eMm3 at h
 rw [getA_eq] at h
 obtain ⟨k1,a,ha,h1⟩:=vInt_ok h
 rw [getA_eq] at h1
 obtain ⟨k2,b,hb,h2⟩:=vInt_ok h1
 rw [getA_eq] at h2
 obtain ⟨k3,c,hc,h3⟩:=vInt_ok h2
 obtain ⟨g1,g2⟩:=ifB_no h3
 obtain ⟨g3,g4⟩:=ifB_no g2
 obtain ⟨g5,g6⟩:=ifB_no g4
 have e1:=beq_of g1
 have e2:=beq_of g3
 have e3:=beq_of g5
 subst e1 e2 e3
 rw [pick2_eq,pick2_eq] at g6
 exact ⟨a,b,c,ha,hb,hc,g6⟩
theorem s_mm {mx:Bool} {as:Array Operand} {ts:Array TypeId} (hop:o.op = .call { callee := .builtin (if mx then .max else .min),args:=as,argTypes:=ts }) (h:evOp (compOp P nt o) id ph e H k=1):Good P nt o e H k:=by
 have hnd:∀ c,o.op ≠ .defer c:=by simp [hop]
 have hc:compOp P nt o=match compArgs nt as.toList,ts.toList with
  | some [x,y],t :: _=>(match kindOf P t with | some k => .mm (kOf k) (offK k) (2 ^ k.bits) mx x y | none => .bad)
  | some [x,y,z],t :: _=>(match kindOf P t with | some k => .mm3 (kOf k) (offK k) (2 ^ k.bits) mx x y z | none => .bad)
  | _,_ => .bad:=by cases mx <;> simp only [compOp,hop,compBuiltin,if_true,Bool.false_eq_true,if_false] <;> rfl
 have r2:∀ {kx:IntKind} {a b:Nat},mx=false→a<kMod kx→b<kMod kx→Builtin.min2 (.int kx (toI kx a)) (.int kx (toI kx b))=pure (.int kx (toI kx (mmN false (offK kx) (2 ^ kx.bits) a b))):=fun _ ha hb=>run_mm2 false ha hb
 have r1:∀ {kx:IntKind} {a b:Nat},mx=true→a<kMod kx→b<kMod kx→Builtin.max2 (.int kx (toI kx a)) (.int kx (toI kx b))=pure (.int kx (toI kx (mmN true (offK kx) (2 ^ kx.bits) a b))):=fun _ ha hb=>run_mm2 true ha hb
 rw [hc] at h
 split at h
 ·rename_i x y t tr hx hts
  obtain ⟨p,q,rfl,hp',hq'⟩:=args2 hx
  split at h
  ·rename_i kx hkx
   have h':eMm (kOf kx) (offK kx) (2 ^ kx.bits) mx x y id ph e H k=1:=h
   obtain ⟨a,b,ha,hb,h1⟩:=eMm_ok h'
   refine ⟨_,_,OpS.of_pure hnd fun m w ac ho => ?_,h1⟩
   have vx:=ho p (by simp [hop,Op.operands,Call.operands]) x hp'
   have vy:=ho q (by simp [hop,Op.operands,Call.operands]) y hq'
   rw [ha] at vx
   rw [hb] at vy
   simp only [VR,kKind_kOf] at vx vy
   refine ⟨.int kx (toI kx (mmN mx (offK kx) (2 ^ kx.bits) a b)), ?_, ?_⟩
   ·rw [builtin_ex hop ac.eval]
    cases mx
    ·simp only [Bool.false_eq_true,if_false,builtin,Builtin.min_,vx.1,vy.1,List.map_toArray,List.map_cons,List.map_nil,List.foldlM_cons,List.foldlM_nil,r2 rfl vx.2.1 vy.2.1,Sem.run_bind,Sem.run_pure,Result.andThen_ok]
    ·simp only [if_true,builtin,Builtin.max_,vx.1,vy.1,List.map_toArray,List.map_cons,List.map_nil,List.foldlM_cons,List.foldlM_nil,r1 rfl vx.2.1 vy.2.1,Sem.run_bind,Sem.run_pure,Result.andThen_ok]
   ·show VR m (.int (kOf kx) (mmN mx (offK kx) (2 ^ kx.bits) a b)) _
    simp only [VR,kKind_kOf]
    refine ⟨trivial, ?_,kOf_lt kx⟩
    rcases mmN_or mx (offK kx) (2 ^ kx.bits) a b with h | h <;> rw [h]
    ·exact vx.2.1
    ·exact vy.2.1
  ·exact (no_ne h).elim
 ·rename_i x y z t tr hx hts
  obtain ⟨p,q,r,rfl,hp',hq',hr'⟩:=args3 hx
  split at h
  ·rename_i kx hkx
   have h':eMm3 (kOf kx) (offK kx) (2 ^ kx.bits) mx x y z id ph e H k=1:=h
   obtain ⟨a,b,c,ha,hb,hc,h1⟩:=eMm3_ok h'
   refine ⟨_,_,OpS.of_pure hnd fun m w ac ho => ?_,h1⟩
   have vx:=ho p (by simp [hop,Op.operands,Call.operands]) x hp'
   have vy:=ho q (by simp [hop,Op.operands,Call.operands]) y hq'
   have vz:=ho r (by simp [hop,Op.operands,Call.operands]) z hr'
   rw [ha] at vx
   rw [hb] at vy
   rw [hc] at vz
   simp only [VR,kKind_kOf] at vx vy vz
   have hm1:mmN mx (offK kx) (2 ^ kx.bits) a b<kMod kx:=by
    rcases mmN_or mx (offK kx) (2 ^ kx.bits) a b with h | h <;> rw [h]
    ·exact vx.2.1
    ·exact vy.2.1
   refine ⟨.int kx (toI kx (mmN mx (offK kx) (2 ^ kx.bits) (mmN mx (offK kx) (2 ^ kx.bits) a b) c)), ?_, ?_⟩
   ·rw [builtin_ex hop ac.eval]
    cases mx
    ·simp only [Bool.false_eq_true,if_false,builtin,Builtin.min_,vx.1,vy.1,vz.1,List.map_toArray,List.map_cons,List.map_nil,List.foldlM_cons,List.foldlM_nil,r2 rfl vx.2.1 vy.2.1,r2 rfl hm1 vz.2.1,Sem.run_bind,Sem.run_pure,Result.andThen_ok]
    ·simp only [if_true,builtin,Builtin.max_,vx.1,vy.1,vz.1,List.map_toArray,List.map_cons,List.map_nil,List.foldlM_cons,List.foldlM_nil,r1 rfl vx.2.1 vy.2.1,r1 rfl hm1 vz.2.1,Sem.run_bind,Sem.run_pure,Result.andThen_ok]
   ·simp only [VR,kKind_kOf]
    refine ⟨trivial, ?_,kOf_lt kx⟩
    rcases mmN_or mx (offK kx) (2 ^ kx.bits) (mmN mx (offK kx) (2 ^ kx.bits) a b) c with h | h <;> rw [h]
    ·exact hm1
    ·exact vz.2.1
  ·exact (no_ne h).elim
 ·exact (no_ne h).elim
end
end Go.Ev
end
section
namespace Go.Ev
open Go.RowKit
section
variable {P:Program} {nt:Nat} {o:Oper} {id:Nat} {ph:Phi} {e:Env} {H:Heap} {k:K}
theorem vr_unit {m:M}:VR m (.tup []) (.tuple #[]):=by
 simp only [VR]
 exact ⟨#[],rfl,by simp only [VRs]⟩
theorem s_delete {as:Array Operand} {ts:Array TypeId} (hop:o.op = .call { callee := .builtin .delete,args:=as,argTypes:=ts }) (h:evOp (compOp P nt o) id ph e H k=1):Good P nt o e H k:=by
 simp only [compOp,hop,compBuiltin] at h
 have hnd:∀ c,o.op ≠ .defer c:=by simp [hop]
 split at h
 ·rename_i m' x' t tr hx hts
  obtain ⟨mm,x,rfl,hm,hx⟩:=args2 hx
  have hts':ts[0]? = some t:=by rw [← Array.getElem?_toList,hts];rfl
  split at h
  ·rename_i kt el hu
   split at h
   ·rename_i ks hks
    obtain ⟨d,hd1,hd2⟩:=keyT_ok hks
    have h':eMdel ks m' x' id ph e H k=1:=h
    unfold eMdel at h'
    rw [getA_eq,getA_eq] at h'
    obtain ⟨b,hb,h1⟩:=vMap_ok h'
    rw [hGet_eq] at h1
    obtain ⟨es,hes,h2⟩:=bMap_ok h1
    obtain ⟨es2,h3,hkd,h4⟩:=delL_ok h2
    obtain ⟨H',h5,h6⟩:=hSet_ok h3
    refine ⟨_,_,OpS.of_run hnd fun base w0 rho w a hp ho => ?_,h5⟩
    have vm:=ho mm (by simp [hop,Op.operands,Call.operands]) m' hm
    rw [hb] at vm
    simp only [VR] at vm
    obtain ⟨c,hcm,hmu⟩:=vm
    obtain ⟨hr,ents,clock,es',g1,gp,go,g2,gs⟩:=hp.map_at hes hmu
    have hka:=kd_all hkd go
    have hka':∀ p ∈ es',KdK ks (pgetA x' e) p.1:=fun p hp=>hka p (gp.mem_iff.1 hp)
    have vx:=ho x (by simp [hop,Op.operands,Call.operands]) x' hx
    rcases h4 with ⟨v,h7⟩ | ⟨h7,rfl⟩
    ·obtain ⟨i,cv,en,f1,f2,f3,f4,f5⟩:=find_hit vx hd2 0 ((gp.trans h7).mem_iff.2 (List.mem_cons_self ..)) (keys_perm gp go).1 hka' g2
     obtain ⟨p1,p2⟩:=hp.map_write (ents:=ents.eraseIdxIfInBounds i) (clock:=clock) (es':=es'.eraseIdx i) hes hr g1 h6 ((perm_erase f3).symm.trans (gp.trans h7)).cons_inv (keys_perm h7.symm go).tail (stamps_erase (i:=i) gs (by
      have hlt:i<ents.size:=by simpa using (List.getElem?_eq_some_iff.1 f4).1
      rw [Array.eraseIdxIfInBounds,dif_pos hlt,Array.toList_eraseIdx])) (by
      have hlt:i<ents.size:=by simpa using (List.getElem?_eq_some_iff.1 f4).1
      rw [Array.eraseIdxIfInBounds,dif_pos hlt,Array.toList_eraseIdx];exact Ents.erase g2)
     refine ⟨.tuple #[],_, ?_,rho,vr_unit,p1,p2⟩
     rw [builtin_ex hop a.eval]
     simp [builtin,Builtin.delete_,hts',run_underlying hu,hcm,run_getObj g1,run_checkKey hd1 hd2,run_findKey hd1 f1,run_setObj g1]
    ·have f1:=find_miss vx hd2 0 (fun p hp=>h7 p (gp.mem_iff.1 hp)) hka' g2
     obtain ⟨p1,p2⟩:=hp.map_write (ents:=ents) (clock:=clock) (es':=es') hes hr g1 h6 gp go gs g2
     refine ⟨.tuple #[],_, ?_,rho,vr_unit,p1,p2⟩
     rw [builtin_ex hop a.eval]
     simp [builtin,Builtin.delete_,hts',run_underlying hu,hcm,run_getObj g1,run_checkKey hd1 hd2,run_findKey hd1 f1,run_setObj g1]
   ·exact (no_ne h).elim
  ·exact (no_ne h).elim
 ·exact (no_ne h).elim
def NewsOK (P:Program) (H:Heap) (size:Nat) (x:V) (n:Nat) (l:List V):Prop:=
 (∀ (m:M) (c:Value),VR m x c → ∀ w:World,(Builtin.lenOf c).run P w = .ok n w) ∧
 ∀ {base:Nat} {w0 w:World} {rho:Nat→Option Nat} {c:Value},PR P base w0 rho H w→VR (mu rho H w) x c→l.length=n * size ∧ ∀ n',n'≤n → ∃ cs:List Value,(Builtin.firstCells size n' c).run P w = .ok cs.toArray w∧VRs (mu rho H w) (l.take (n' * size)) cs
theorem lenOf_ok {m:M} {c:Value} {w:World} :
  (∀ b o l cp sz,VR m (.slice b o l cp sz) c→(Builtin.lenOf c).run P w = .ok l w)∧(VR m .nils c→(Builtin.lenOf c).run P w = .ok 0 w)∧(∀ l n,VR m (.str l n) c→(Builtin.lenOf c).run P w = .ok l w):=by
 refine ⟨fun b o l cp sz v => ?_,fun v => ?_,fun l n v => ?_⟩
 ·simp only [VR] at v;obtain ⟨c1,cap,o',sp,rfl,_⟩:=v;rfl
 ·simp only [VR] at v;rw [v];rfl
 ·simp only [VR] at v;rw [v.1];simp [Builtin.lenOf,ByteArray.size,sbytes_length]
theorem rowRd_of {bl:Blk} {row:List V} (h:rowOf bl=some row):rowRd bl=some row:=by
 cases bl <;> first | exact h | (simp [rowOf] at h)
theorem PR.slice_rcells {base:Nat} {w0 w:World} {rho:Nat→Option Nat} (hp:PR P base w0 rho H w) {b o' off c n:Nat} {row:List V} (hm:(mu rho H w).b b c) (hrow:rowRd (H.get b)=some row) (hn:off+n≤row.length) (hv:(∀ v ∈ (row.drop off).take n,v.one=true)∨rowOf (H.get b)=some row) {sp:Option _} (ho:o'=off∧sp=none∨n=0) :
  ∃ cs:List Value,(loadCells ⟨c,o',sp⟩ n).run P w = .ok cs.toArray w∧VRs (mu rho H w) ((row.drop off).take n) cs:=by
 rcases ho with ⟨rfl,rfl⟩ | rfl
 ·obtain ⟨cs,h1,h2,_⟩:=hp.rcells (hp.rho_rd hm hrow) hrow hn hv
  exact ⟨cs,h1,h2⟩
 ·exact ⟨[],rfl,by simp only [List.take_zero,VRs]⟩
theorem PR.slice_cells {base:Nat} {w0 w:World} {rho:Nat→Option Nat} (hp:PR P base w0 rho H w) {b o' off c n:Nat} {row:List V} (hm:(mu rho H w).b b c) (hrow:rowOf (H.get b)=some row) (hn:off+n≤row.length) {sp:Option _} (ho:o'=off∧sp=none∨n=0) :
  ∃ cs:List Value,(loadCells ⟨c,o',sp⟩ n).run P w = .ok cs.toArray w∧VRs (mu rho H w) ((row.drop off).take n) cs:=hp.slice_rcells hm (rowRd_of hrow) hn (Or.inr hrow) ho
theorem news_str {len n:Nat}:NewsOK P H 1 (.str len n) len ((sbytes len n).map byteV):=by
 refine ⟨fun m c v w=>lenOf_ok.2.2 _ _ v,fun {base w0 w rho c} hp v=>⟨by simp [sbytes_length],fun n' hn => ?_⟩⟩
 simp only [VR] at v
 refine ⟨((sbytes len n).take n').map fun y=>Value.int .u8 y.toNat, ?_, ?_⟩
 ·rw [v.1]
  simp only [Builtin.firstCells,Sem.run_pure]
  congr 1
  apply Array.ext'
  simp [Go.Lib.extract_data]
 ·rw [Nat.mul_one,← List.map_take]
  exact VRs.of_get (by simp) fun i v' c' g1 g2=>by
   rw [List.getElem?_map,Option.map_eq_some_iff] at g1 g2
   obtain ⟨y,hy,rfl⟩:=g1
   obtain ⟨y',hy',rfl⟩:=g2
   rw [hy] at hy'
   cases hy'
   exact VR_byte _ y
theorem news_slice {b off len cp sz size:Nat} {row:List V} (h1:rowRd (H.get b)=some row) (h2:off+len * size≤row.length) (hv:(∀ v ∈ (row.drop off).take (len * size),v.one=true)∨rowOf (H.get b)=some row):NewsOK P H size (.slice b off len cp sz) len ((row.drop off).take (len * size)):=by
 refine ⟨fun m c v w=>lenOf_ok.1 _ _ _ _ _ v,fun {base w0 w rho c} hp v=>⟨by rw [List.length_take,List.length_drop];omega,fun n' hn => ?_⟩⟩
 simp only [VR] at v
 obtain ⟨c1,cap,o',sp,rfl,hm,hle,hcp,ho'⟩:=v
 have hns:n' * size≤len * size:=Nat.mul_le_mul_right _ hn
 obtain ⟨cs,g1,g2⟩:=hp.slice_rcells (o':=o') (sp:=sp) (off:=off) (n:=n' * size) hm h1 (by omega) (hv.imp (fun h v hm=>h v (by
   rw [show (row.drop off).take (n' * size)=((row.drop off).take (len * size)).take (n' * size) by rw [List.take_take,Nat.min_eq_left hns]] at hm
   exact List.mem_of_mem_take hm)) id) (by
  rcases ho' with h | h
  ·exact Or.inl h
  ·right
   have:n'=0:=by omega
   subst this
   omega)
 refine ⟨cs,by simpa [Builtin.firstCells] using g1, ?_⟩
 rw [List.take_take,Nat.min_eq_left hns]
 exact g2
theorem news_nils {size:Nat}:NewsOK P H size .nils 0 []:=by
 refine ⟨fun m c v w=>lenOf_ok.2.1 v,fun {base w0 w rho c} hp v=>⟨by simp,fun n' hn => ?_⟩⟩
 simp only [VR] at v
 have:n'=0:=by omega
 subst this
 exact ⟨[],by rw [v];rfl,by simp only [Nat.zero_mul,List.take_zero,VRs]⟩
theorem news_empty {size b off cp sz:Nat}:NewsOK P H size (.slice b off 0 cp sz) 0 []:=by
 refine ⟨fun m c v w=>lenOf_ok.1 _ _ _ _ _ v,fun {base w0 w rho c} hp v=>⟨by simp,fun n' hn => ?_⟩⟩
 simp only [VR] at v
 obtain ⟨c1,cap,o',sp,rfl,hm,hle,hcp,ho'⟩:=v
 have:n'=0:=by omega
 subst this
 refine ⟨[], ?_,by simp only [Nat.zero_mul,List.take_zero,VRs]⟩
 simp only [Builtin.firstCells,Nat.zero_mul]
 rfl
theorem newCells_ok {size:Nat} {x:V} {f:Nat→List V→R} (h:newCells id size H x f=1):∃ n l,f n l=1∧NewsOK P H size x n l:=by
 cases x <;> first | exact (no_ne h).elim | skip
 ·rename_i len n
  have h':ifB (Nat.beq size 1) (unpackB len n fun m=>f len m) (no _)=1:=h
  obtain ⟨h1,h2⟩:=ifB_no h'
  have:=beq_of h1
  subst this
  rw [unpackB_eq] at h2
  exact ⟨_,_,h2,news_str⟩
 ·rename_i b off len cp sz
  cases len with
  | zero=>exact ⟨0,[],h,news_empty⟩
  | succ len=>
   have h':rdN id H b off (Nat.mul (len+1) size) (fun m=>f (len+1) m)=1:=h
   obtain ⟨row,h1,h2,hv,h3⟩:=rdN_ok h'
   exact ⟨_,_,h3,news_slice h1 h2 hv⟩
 ·exact ⟨0,[],h,news_nils⟩
theorem newBytes_ok {x:V} {f:Nat→Nat→R} (h:newBytes id H x f=1):∃ n y l,f n y=1∧NewsOK P H 1 x n l∧(∀ v ∈ l,v.one=true) ∧ ∀ (m:M) (c:Value),VR m x c→SmallB l→BytesOf l y:=by
 cases x <;> first | exact (no_ne h).elim | skip
 ·rename_i len n
  refine ⟨len,n,_,h,news_str,fun v hv=>by obtain ⟨y,_,rfl⟩:=List.mem_map.1 hv;rfl,fun m c v _ => ?_⟩
  simp only [VR] at v
  exact ⟨by simp [sbytes_length],by simpa [sbytes_length] using v.2⟩
 ·rename_i b off len cp sz
  have h':loadB id H b off len (fun m=>f len m)=1:=h
  obtain ⟨row,y,h1,h2,h3,h4,h5⟩:=loadB_ok h'
  have hN:=news_slice (P:=P) (size:=1) (cp:=cp) (sz:=sz) (rowRd_of h1) (show off+len * 1≤row.length by omega) (Or.inr h1)
  rw [Nat.mul_one] at hN
  exact ⟨len,y,_,h3,hN,fun v hv=>by obtain ⟨x,rfl⟩:=h4 v hv;rfl,fun _ _ _ hs=>h5 hs⟩
 ·exact ⟨0,0,[],h,news_nils,fun v hv=>absurd hv (by simp),fun _ _ _ _=>⟨rfl,by simp⟩⟩
theorem growBy_le {n:Nat} (hn:n≤1073741824):∀ (r c:Nat),c≤2147483648→Builtin.growBy n r c≤2147483648
 | 0,c,h=>h
 | r+1,c,h=>by
  simp only [Builtin.growBy]
  split
  ·exact h
  ·exact growBy_le hn r _ (by omega)
theorem next_le {need cap:Nat} (hn:need≤1073741824) (hc:cap<need):Builtin.nextslicecap need cap≤2147483648:=by
 unfold Builtin.nextslicecap
 split
 ·omega
 ·split
  ·omega
  ·exact growBy_le hn 4 cap (by omega)
theorem notInt {d:TypeDesc} (h:∀ k,d ≠ .int k):(match d with | .int _=>true | _=>false)=false:=by cases d <;> first | rfl | exact absurd rfl (h _)
structure AppT (P:Program) (ts:Array TypeId) (el:TypeId) (size:Nat) (i:TypeInfo) (zv:Value):Prop where
 t0:∃ st,ts[0]? = some st∧P.underlying st=some (.slice el)
 t1:∃ xt d,ts[1]? = some xt∧P.underlying xt=some d ∧ ∀ k,d ≠ .int k
 info:P.info? el=some i
 isz:i.size=size
 bytes:i.bytes≤65536
 zero:i.zero=some zv
 zsize:zv.cells.size=size
theorem run_append_in {ts:Array TypeId} {el:TypeId} {size:Nat} {i:TypeInfo} {zv:Value} (hT:AppT P ts el size i zv) {ot:TypeId} {base:Option Addr} {sLen sCap n:Nat} {x:Value} {new:List Value} {w w':World}
  (hn:(Builtin.lenOf x).run P w = .ok n w) (hf:(Builtin.firstCells size n x).run P w = .ok new.toArray w) (hle:sLen+n≤sCap)
  (hst:match base with | some a=>(storeCells (a.add (sLen * size)) new).run P w = .ok () w' | none=>w'=w) :
  (Builtin.append_ ts ot #[.slice base sLen sCap,x]).run P w = .ok (.slice base (sLen+n) sCap) w':=by
 obtain ⟨st,h1,h2⟩:=hT.t0
 obtain ⟨xt,d,h3,h4,h5⟩:=hT.t1
 have hz:=notInt h5
 have hsz:(sizeOf el).run P w = .ok size w:=by simp [sizeOf,typeInfo,hT.info,hT.isz]
 cases base with
 | none=>
  subst hst
  simp only [Builtin.append_,h1,h3,Sem.run_bind,run_underlying h2,run_underlying h4,hsz,Result.andThen_ok,Sem.run_pure,hz,Bool.false_eq_true,if_false,hn,hle,if_true,Bool.not_false,hf]
  simp [h1,h3,run_underlying h2,run_underlying h4,hsz,hz,hn,hle,hf]
 | some a=>
  simp only [] at hst
  simp [Builtin.append_,h1,h3,run_underlying h2,run_underlying h4,hsz,hz,hn,hle,hf,hst]
theorem run_append_grow {ts:Array TypeId} {el:TypeId} {size:Nat} {i:TypeInfo} {zv:Value} (hT:AppT P ts el size i zv) {ot:TypeId} {base:Option Addr} {sLen sCap n:Nat} {x:Value} {old new:List Value} {w:World}
  (hn:(Builtin.lenOf x).run P w = .ok n w) (hlt:sCap<sLen+n) (hb:sLen+n≤1073741824)
  (ho:(Builtin.firstCells size sLen (.slice base sLen sCap)).run P { w with drawn:=w.drawn+1 } = .ok old.toArray { w with drawn:=w.drawn+1 })
  (hf:(Builtin.firstCells size n x).run P { w with drawn:=w.drawn+1 } = .ok new.toArray { w with drawn:=w.drawn+1 }) :
  ∃ cap w' rest,(sLen+n≤cap∧cap<9223372036854775808)∧rest.size=(cap-(sLen+n)) * size∧(Builtin.append_ ts ot #[.slice base sLen sCap,x]).run P w = .ok (.slice (some ⟨w.heap.size,0,none⟩) (sLen+n) cap) w'∧Same w w'∧w'.heap=w.heap.push (.cells (old.toArray ++ new.toArray ++ rest) el):=by
 obtain ⟨st,h1,h2⟩:=hT.t0
 obtain ⟨xt,d,h3,h4,h5⟩:=hT.t1
 have hz:=notInt h5
 have hsz:(sizeOf el).run P w = .ok size w:=by simp [sizeOf,typeInfo,hT.info,hT.isz]
 have hti:∀ w:World,(typeInfo el).run P w = .ok i w:=fun w=>by simp [typeInfo,hT.info]
 have hzr:∀ w:World,(zeroValue el).run P w = .ok zv w:=fun w=>by simp [zeroValue,typeInfo,hT.info,hT.zero]
 have hnle:¬ sLen+n≤sCap:=by omega
 have hbig:¬ (((sLen+n:Nat):Int) > IntKind.i64.max∧((false=true)∨i.bytes=0)):=by
  rintro ⟨h6,_⟩
  simp [IntKind.max,IntKind.signed,IntKind.bits] at h6
  omega
 have hcap:¬ (Builtin.nextslicecap (sLen+n) sCap * i.bytes > 2 ^ 48):=by
  have:=next_le hb hlt
  have h7:Builtin.nextslicecap (sLen+n) sCap * i.bytes≤2147483648 * 65536:=Nat.mul_le_mul this hT.bytes
  omega
 have hq:(choose (.appendCap (sLen+n) sCap el)).run P w = .ok ((Question.appendCap (sLen+n) sCap el).cut (w.tape w.drawn (.appendCap (sLen+n) sCap el))) { w with drawn:=w.drawn+1 }:=by
  rw [run_choose];rfl
 have hle:sLen+n≤(Question.appendCap (sLen+n) sCap el).cut (w.tape w.drawn (.appendCap (sLen+n) sCap el))∧(Question.appendCap (sLen+n) sCap el).cut (w.tape w.drawn (.appendCap (sLen+n) sCap el))<9223372036854775808:=by
  have hmod:=Nat.mod_lt (w.tape w.drawn (.appendCap (sLen+n) sCap el)) (show 0<2 ^ 63-(sLen+n) by omega)
  simp only [Question.cut]
  omega
 generalize (Question.appendCap (sLen+n) sCap el).cut (w.tape w.drawn (.appendCap (sLen+n) sCap el))=cap at hq hle
 refine ⟨cap, { w with drawn:=w.drawn+1,heap:=w.heap.push (.cells (old.toArray ++ new.toArray ++ Builtin.zeroCells zv.cells (cap-(sLen+n))) el) },Builtin.zeroCells zv.cells (cap-(sLen+n)),hle,by simp [Builtin.zeroCells,hT.zsize], ?_,⟨rfl,rfl,rfl⟩,rfl⟩
 have hbig':¬ (IntKind.i64.max < (((sLen+n:Nat)):Int)∧i.bytes=0):=fun h=>hbig ⟨h.1,Or.inr h.2⟩
 have hcap':¬ (2 ^ 48<Builtin.nextslicecap (sLen+n) sCap * i.bytes):=hcap
 unfold Builtin.append_
 simp only [h1,List.getElem?_toArray,List.getElem?_cons_zero,List.getElem?_cons_succ]
 simp only [h3,Sem.run_bind,run_underlying h2,run_underlying h4,hsz,Result.andThen_ok,Sem.run_pure,hz,Bool.false_eq_true,if_false,hn,hnle,hti,hbig,hcap,hq,run_askRoom,Sem.run_ite,Bool.not_false,if_true,ho,hf,hzr,newRow,run_newObj]
 rw [if_neg (fun h=>hbig' ⟨h.1,h.2.resolve_left id⟩)]
theorem appT_ok {st xt el:TypeId} {s':Nat} {i:TypeInfo} {as:Array TypeId} (hts:as.toList=[st,xt]) (hel:sliceT P st=some el) (hs:szT P el=some s') (hi:P.info? el=some i) (hb:i.bytes≤65536) (hz:zlen P el s'=true) (hl:lenT P xt=true) :
  ∃ zv,AppT P as el s' i zv:=by
 obtain ⟨zv,hzv,hzs⟩:∃ zv,i.zero=some zv∧zv.cells.size=s':=by
  unfold zlen at hz
  split at hz
  ·rename_i z hzt
   obtain ⟨i',zv,h1,h2,h3,_⟩:=zeroT_ok hzt
   rw [hi] at h1
   cases h1
   have:=(h3 ⟨fun _ _=>True,fun _ _=>True⟩).length
   exact ⟨zv,h2,by simp at this hz;omega⟩
  ·cases hz
 have h0:as[0]? = some st:=by rw [← Array.getElem?_toList,hts];rfl
 have h1:as[1]? = some xt:=by rw [← Array.getElem?_toList,hts];rfl
 refine ⟨zv,⟨st,h0,sliceT_ok hel⟩, ?_,hi,by simpa [szT,hi] using hs,hb,hzv,hzs⟩
 unfold lenT at hl
 split at hl
 ·rename_i hu;exact ⟨xt,_,h1,hu,fun k=>by simp⟩
 ·rename_i hu;exact ⟨xt,_,h1,hu,fun k=>by simp⟩
 ·rename_i hu;exact ⟨xt,_,h1,hu,fun k=>by simp⟩
 ·cases hl
section app
variable {p q:Operand} {ts:Array TypeId} {s x:Arg} {el:TypeId} {size:Nat} {i:TypeInfo} {zv:Value}
theorem app_fin (hop:o.op = .call { callee := .builtin .append,args := #[p,q],argTypes:=ts }) (hp':compArg nt p=some s) (hq':compArg nt q=some x) {v:V} {H':Heap}
  (h:∀ (base:Nat) (w0:World) (rho:Nat→Option Nat) (w:World) (cs cx:Value),PR P base w0 rho H w→VR (mu rho H w) (pgetA s e) cs→VR (mu rho H w) (pgetA x e) cx → ∃ cv w',(Builtin.append_ ts o.type #[cs,cx]).run P w = .ok cv w'∧Left P base w0 rho H w v H' cv w'):OpS P nt o e H v H':=
 OpS.of_run (by simp [hop]) fun base w0 rho w a hp ho=>by
  obtain ⟨cv,w',h1,h2⟩:=h base w0 rho w _ _ hp (ho p (by simp [hop,Op.operands,Call.operands]) s hp') (ho q (by simp [hop,Op.operands,Call.operands]) x hq')
  refine ⟨cv,w', ?_,h2⟩
  rw [builtin_ex hop a.eval]
  simp [builtin,h1]
theorem app_none (hT:AppT P ts el size i zv) {l:List V} (hN:NewsOK P H size (pgetA x e) 0 l) (hsl:(∃ b o len cp sz,pgetA s e = .slice b o len cp sz)∨pgetA s e = .nils) {base:Nat} {w0:World} {rho:Nat→Option Nat} {w:World} {cs cx:Value} (hp:PR P base w0 rho H w) (vs:VR (mu rho H w) (pgetA s e) cs) (vx:VR (mu rho H w) (pgetA x e) cx) {ot:TypeId} :
  ∃ cv w',(Builtin.append_ ts ot #[cs,cx]).run P w = .ok cv w'∧Left P base w0 rho H w (pgetA s e) H cv w':=by
 have hlen:=hN.1 _ _ vx w
 obtain ⟨_,h2⟩:=hN.2 hp vx
 obtain ⟨cl,h3,h4⟩:=h2 0 (Nat.le_refl _)
 have hcl:cl=[]:=by simp only [Nat.zero_mul,List.take_zero,VRs] at h4;exact h4
 subst hcl
 refine ⟨cs,w, ?_,rho,vs,hp,Ext.refl hp.lt⟩
 rcases hsl with ⟨b,oo,len,cp,sz,hs⟩ | hs <;> rw [hs] at vs <;> simp only [VR] at vs
 ·obtain ⟨c,cap,o',sp,rfl,hm,hle,_⟩:=vs
  exact run_append_in hT (base:=some ⟨c,o',sp⟩) (sLen:=len) (sCap:=cap) (n:=0) (new:=[]) hlen h3 hle rfl
 ·rw [vs]
  exact run_append_in hT (base:=none) (sLen:=0) (sCap:=0) (n:=0) (new:=[]) hlen h3 (Nat.le_refl _) rfl
theorem same_drawn {w w':World} (h:Same w w'):Same w w':=h
theorem app_grow (hT:AppT P ts el size i zv) {n:Nat} {l old:List V} (hN:NewsOK P H size (pgetA x e) n l) {H':Heap} {bl:Blk} (hNew:NewTo H bl H') {base:Nat} {w0:World} {rho:Nat→Option Nat} {w:World} {cx:Value} (hp:PR P base w0 rho H w) (vx:VR (mu rho H w) (pgetA x e) cx)
  {ba:Option Addr} {sLen sCap:Nat} (hold:∀ w1:World,w1.heap=w.heap→PR P base w0 rho H w1 → ∃ oc:List Value,(Builtin.firstCells size sLen (.slice ba sLen sCap)).run P w1 = .ok oc.toArray w1∧VRs (mu rho H w) old oc) (hol:old.length=sLen * size) (hlt:sCap<sLen+n) (hb:sLen+n≤1073741824)
  (hrow:∀ oc nc,VRs (mu rho H w) old oc→VRs (mu rho H w) l nc→rowOf bl=some (old ++ l)∧(∀ len m,bl = .bytes len m→m<256 ^ len)∧(∀ v ∈ old ++ l,v.one=true)) {ot:TypeId} :
  ∃ cv w',(Builtin.append_ ts ot #[.slice ba sLen sCap,cx]).run P w = .ok cv w'∧Left P base w0 rho H w (.slice H.n 0 (sLen+n) 0 size) H' cv w':=by
 have hlen:=hN.1 _ _ vx w
 have hpd:=hp.drawn (w.drawn+1)
 obtain ⟨oc,h1,h2⟩:=hold { w with drawn:=w.drawn+1 } rfl hpd
 obtain ⟨hll,h3⟩:=hN.2 hpd vx
 obtain ⟨nc,h4,h5⟩:=h3 n (Nat.le_refl _)
 rw [List.take_of_length_le (by omega)] at h5
 obtain ⟨cap,w',rest,g1,g10,g2,g3,g4⟩:=run_append_grow hT hlen hlt hb h1 h4 (ot:=ot)
 obtain ⟨r1,r2,r3⟩:=hrow oc nc h2 h5
 have hR:RowR (mu rho H w) (old ++ l) (oc.toArray ++ nc.toArray ++ rest) (0,0):=by
  refine ⟨fun j v hj=>⟨r3 v (List.mem_of_getElem? hj), ?_⟩,fun j _=>by simp⟩
  obtain ⟨c,h6,h7⟩:=(h2.append h5).get hj
  have hjl:j < (oc ++ nc).length:=by
   rcases Nat.lt_or_ge j (oc ++ nc).length with h | h
   ·exact h
   ·rw [List.getElem?_eq_none h] at h6;cases h6
  refine ⟨c, ?_,h7⟩
  rw [Array.getElem?_append_left (by simpa using hjl)]
  simpa using h6
 obtain ⟨rho',p1,p2,p3⟩:=hp.fresh (w':=w') hNew r1 r2 hR g3 g4
 exact ⟨_,w',g2,rho',by simp only [VR];exact ⟨_,_,_,_,rfl,p3,g1.1,⟨fun q hq=>absurd hq (by omega),fun _=>Or.inr ⟨⟨_,_,_,by rw [g4,Array.getElem?_push_size],by
  have e1:=h2.length
  have e2:=h5.length
  simp only [Array.size_append,List.size_toArray,e1,e2,hol,hll,g10,Nat.zero_add]
  rw [← Nat.add_mul,← Nat.add_mul]
  congr 1
  omega⟩,g1.2⟩⟩,Or.inl ⟨rfl,rfl⟩⟩,p1,p2⟩
theorem app_in (hT:AppT P ts el size i zv) {n:Nat} {l:List V} (hN:NewsOK P H size (pgetA x e) n l) (hn0:0<n) {b off len q sz:Nat} (hle:len+n≤q) {base:Nat} {w0:World} {rho:Nat→Option Nat} {w:World} {cs cx:Value} (hp:PR P base w0 rho H w) (vs:VR (mu rho H w) (.slice b off len (q+1) sz) cs) (vx:VR (mu rho H w) (pgetA x e) cx)
  {H':Heap} (hone:∀ v ∈ l,v.one=true)
  (hst:∀ {base:Nat} {w0 w:World} {rho:Nat→Option Nat} {c:Nat} {ms:List Value},PR P base w0 rho H w→(mu rho H w).b b c→(∀ v ∈ l,v.one=true)→VRs (mu rho H w) l ms → ∃ w',(storeCells ⟨c,off+len * size,none⟩ ms 0).run P w = .ok () w'∧PR P base w0 rho H' w'∧Ext rho H w rho H' w') {ot:TypeId} :
  ∃ cv w',(Builtin.append_ ts ot #[cs,cx]).run P w = .ok cv w'∧Left P base w0 rho H w (.slice b off (len+n) (q+1) sz) H' cv w':=by
 have hlen:=hN.1 _ _ vx w
 obtain ⟨hll,h3⟩:=hN.2 hp vx
 obtain ⟨nc,h4,h5⟩:=h3 n (Nat.le_refl _)
 rw [List.take_of_length_le (by omega)] at h5
 simp only [VR] at vs
 obtain ⟨c,cap,o',sp,rfl,hm,hlc,hcp,ho'⟩:=vs
 have:=hcp.1 q rfl
 subst this
 obtain ⟨rfl,rfl⟩:o'=off∧sp=none:=by
  rcases ho' with h | h
  ·exact h
  ·omega
 obtain ⟨w',g1,g2,g3⟩:=hst hp hm hone h5
 refine ⟨_,w',run_append_in hT (base:=some ⟨c,o',none⟩) hlen h4 hle (by show (storeCells (Addr.add ⟨c,o',none⟩ (len * size)) nc).run P w=_;rw [Addr.add_lit];exact g1),rho, ?_,g2,g3⟩
 simp only [VR]
 exact ⟨c,cap,o',none,rfl,g3.mu.1 _ _ hm,hle,⟨hcp.1,fun h=>absurd h (by omega)⟩,Or.inl ⟨rfl,rfl⟩⟩
theorem app_move (hT:AppT P ts el size i zv) (hs0:0<size) {n:Nat} {l row:List V} (hN:NewsOK P H size (pgetA x e) n l) (hn0:0<n) {b len:Nat} (hrow:rowOf (H.get b)=some row) (hrl:row.length=len * size) (hb:len+n≤1073741824)
  {H':Heap} {bl:Blk} (h1:H'.n=H.n+1) (h2:H'.wlo≤H.wlo) (h3:H'.wlo≤b) (h4:H'.get b = .dead) (h5:H'.get H.n=bl) (h6:∀ j,j≠b→j≠H.n→H'.get j=H.get j)
  {base:Nat} {w0:World} {rho:Nat→Option Nat} {w:World} {cs cx:Value} (hp:PR P base w0 rho H w) (vs:VR (mu rho H w) (.slice b 0 len 0 size) cs) (vx:VR (mu rho H w) (pgetA x e) cx)
  (hbl:∀ oc nc,VRs (mu rho H w) row oc→VRs (mu rho H w) l nc→rowOf bl=some (row ++ l)∧(∀ len m,bl = .bytes len m→m<256 ^ len)∧(∀ v ∈ row ++ l,v.one=true)) (hkd:∀ q,bl = .cells q → ∃ q',H.get b = .cells q') {ot:TypeId} :
  ∃ cv w',(Builtin.append_ ts ot #[cs,cx]).run P w = .ok cv w'∧Left P base w0 rho H w (.slice H.n 0 (len+n) 0 size) H' cv w':=by
 have hlen:=hN.1 _ _ vx w
 simp only [VR] at vs
 obtain ⟨c,cap,o',sp,rfl,hm,hlc,hcp,ho'⟩:=vs
 have hr:=hp.rho_of hm hrow
 obtain ⟨cur,elc,fr,k1,k2⟩:=hp.row hr hrow
 have hnm:=(rowOf_alive hrow).2
 by_cases hle:len+n≤cap
 ·obtain ⟨rfl,rfl⟩:o'=0∧sp=none:=by
   rcases ho' with h | h
   ·exact h
   ·omega
  obtain ⟨hll,h8⟩:=hN.2 hp vx
  obtain ⟨nc,g4,g5⟩:=h8 n (Nat.le_refl _)
  rw [List.take_of_length_le (by omega)] at g5
  have hrv:=k2.vrs (o:=0) (n:=row.length) (by omega)
  rw [List.drop_zero,List.take_length] at hrv
  obtain ⟨r1,r2,r3⟩:=hbl _ nc hrv g5
  have hcapb:cap<9223372036854775808:=by
   rcases hcp.2 trivial with h | ⟨_,h⟩
   ·omega
   ·exact h
  have hz:cur.size=cap * size:=by
   rcases hcp.2 trivial with h | ⟨⟨cs2,e2,fr2,h,h'⟩,_⟩
   ·omega
   ·rw [k1] at h;cases h;omega
  have hncl:=g5.length
  have hsum:len * size+n * size≤cap * size:=by rw [← Nat.add_mul];exact Nat.mul_le_mul_right _ hle
  obtain ⟨w',cur',q1,q2,q3,q4,q5,q6,q7⟩:=run_storeCells (P:=P) (o:=len * size) nc 0 cur w k1 (by omega) (vrs_one g5 fun v hv=>r3 v (List.mem_append_right _ hv)) k2.2
  have hR:RowR (mu rho H w) (row ++ l) cur' fr:=by
   refine ⟨fun j v hj=>⟨r3 v (List.mem_of_getElem? hj), ?_⟩,by rw [q3];exact k2.2⟩
   rw [q4]
   by_cases hj1:j<row.length
   ·rw [List.getElem?_append_left hj1] at hj
    rw [if_neg (by omega)]
    exact (k2.1 j v hj).2
   ·rw [List.getElem?_append_right (by omega)] at hj
    obtain ⟨cv,t1,t2⟩:=g5.get hj
    have hjl:j-row.length<nc.length:=by
     rcases Nat.lt_or_ge (j-row.length) nc.length with h | h
     ·exact h
     ·rw [List.getElem?_eq_none h] at t1;cases t1
    rw [if_pos (by omega),show j-(len * size+0)=j-row.length by omega]
    exact ⟨cv,t1,t2⟩
  obtain ⟨p1,p2⟩:=hp.move (w':=w') (c':=c) (o := .cells cur' elc fr) hr hnm h1 h2 h3 h4 h5 h6 (rowOf_alive r1).1 q7 (by omega) (Or.inl rfl) (by have:=(hp.dom b c hr).2.2.1;omega) q2 (fun j _ hj=>q5 j hj) (BR_of_row r1 r2 hR fun q hq=>by obtain ⟨q',hq'⟩:=hkd q hq;rw [q3];exact hp.nstr hr hq' k1) (fun cs2 e2 fr2 h=>by rw [k1] at h;cases h;exact ⟨cur',elc,fr,q2,q3⟩) (fun r h=>by rw [k1] at h;cases h)
  refine ⟨_,w',run_append_in hT (base:=some ⟨c,0,none⟩) hlen g4 hle (by show (storeCells (Addr.add ⟨c,0,none⟩ (len * size)) nc).run P w=_;rw [Addr.add_lit,Nat.zero_add];exact q1),_, ?_,p1,p2⟩
  simp only [VR]
  refine ⟨c,cap,0,none,rfl,⟨by rw [h1];omega,fun _=>by simp⟩,hle,⟨fun q hq=>absurd hq (by omega),fun _=>Or.inr ⟨⟨cur',elc,fr,q2,by omega⟩,hcapb⟩⟩,Or.inl ⟨rfl,rfl⟩⟩
 ·have hpd:=hp.drawn (w.drawn+1)
  obtain ⟨hll,h8⟩:=hN.2 hpd vx
  obtain ⟨nc,g4,g5⟩:=h8 n (Nat.le_refl _)
  rw [List.take_of_length_le (by omega)] at g5
  obtain ⟨oc,j1,j2⟩:=hpd.slice_cells (o':=o') (sp:=sp) (off:=0) (n:=len * size) hm hrow (by omega) (by
   rcases ho' with h | h
   ·exact Or.inl h
   ·right
    have:len=0:=by omega
    subst this
    omega)
  rw [List.drop_zero,List.take_of_length_le (by omega)] at j2
  obtain ⟨cap',w',rest,q1,q10,q2,q3,q4⟩:=run_append_grow hT (base:=some ⟨c,o',sp⟩) (sLen:=len) (sCap:=cap) hlen (by omega) hb (by simpa [Builtin.firstCells] using j1) g4 (ot:=ot)
  obtain ⟨r1,r2,r3⟩:=hbl oc nc j2 g5
  have hR:RowR (mu rho H w) (row ++ l) (oc.toArray ++ nc.toArray ++ rest) (0,0):=by
   refine ⟨fun j v hj=>⟨r3 v (List.mem_of_getElem? hj), ?_⟩,fun j _=>by simp⟩
   obtain ⟨cv,t1,t2⟩:=(j2.append g5).get hj
   have hjl:j < (oc ++ nc).length:=by
    rcases Nat.lt_or_ge j (oc ++ nc).length with h | h
    ·exact h
    ·rw [List.getElem?_eq_none h] at t1;cases t1
   refine ⟨cv, ?_,t2⟩
   rw [Array.getElem?_append_left (by simpa using hjl)]
   simpa using t1
  have hcw:c<w.heap.size:=(hp.dom b c hr).2.2.1
  have hold:∀ j,j<w.heap.size→w'.heap[j]? = w.heap[j]?:=fun j hj=>by rw [q4,Array.getElem?_push,if_neg (by omega)]
  obtain ⟨p1,p2⟩:=hp.move (w':=w') (c':=w.heap.size) (o := .cells (oc.toArray ++ nc.toArray ++ rest) el) hr hnm h1 h2 h3 h4 h5 h6 (rowOf_alive r1).1 q3 (by rw [q4];simp) (Or.inr (Nat.le_refl _)) (by rw [q4];simp) (by rw [q4,Array.getElem?_push_size]) (fun j hj _=>hold j hj) (BR_of_row r1 r2 hR) (fun cs2 e2 fr2 h=>⟨cs2,e2,fr2,(hold c hcw).trans h,rfl⟩) (fun r h=>by obtain ⟨_,_,_,k1,_⟩:=hp.row hr hrow;rw [k1] at h;cases h)
  refine ⟨_,w',q2,_, ?_,p1,p2⟩
  simp only [VR]
  refine ⟨w.heap.size,cap',0,none,rfl,⟨by rw [h1];omega,fun _=>by simp⟩,q1.1,⟨fun q hq=>absurd hq (by omega),fun _=>Or.inr ⟨⟨_,_,_,by rw [q4,Array.getElem?_push_size],by
   have e1:=j2.length
   have e2:=g5.length
   simp only [Array.size_append,List.size_toArray,e1,e2,hrl,hll,q10,Nat.zero_add]
   rw [← Nat.add_mul,← Nat.add_mul]
   congr 1
   omega⟩,q1.2⟩⟩,Or.inl ⟨rfl,rfl⟩⟩
end app
theorem s_append {as:Array Operand} {ts:Array TypeId} (hop:o.op = .call { callee := .builtin .append,args:=as,argTypes:=ts }) (h:evOp (compOp P nt o) id ph e H k=1):Good P nt o e H k:=by
 simp only [compOp,hop,compBuiltin] at h
 split at h
 ·rename_i s x st xt hx hts
  obtain ⟨p,q,rfl,hp',hq'⟩:=args2 hx
  split at h
  ·rename_i el hel
   split at h
   ·rename_i s' i hs hi
    split at h
    ·rename_i hc
     simp only [Bool.and_eq_true,decide_eq_true_eq] at hc
     obtain ⟨⟨⟨hs0,hby⟩,hzl⟩,hlt⟩:=hc
     obtain ⟨zv,hT⟩:=appT_ok hts hel hs hi hby hzl hlt
     have h':ifB (isU8 P el && s' == 1) (eAppB s x id e H k) (eAppC s' s x id e H k)=1:=h
     rcases ifB_or h' with ⟨hu8,h1⟩ | ⟨_,h1⟩
     ·simp only [Bool.and_eq_true,beq_iff_eq] at hu8
      obtain ⟨_,rfl⟩:=hu8
      unfold eAppB at h1
      rw [getA_eq,getA_eq] at h1
      obtain ⟨n,y,l,h2,hN,hone,hby2⟩:=newBytes_ok (P:=P) h1
      have e8:∀ (a k:Nat),Nat.shiftLeft a (Nat.mul 8 k)=256 ^ k * a:=fun a k=>by
       show a <<< (8 * k)=_
       rw [Nat.shiftLeft_eq,Nat.pow_mul,Nat.mul_comm]
      have hjoin:∀ (m:M) (row:List V) (rx:Nat) (oc nc:List Value) (cxv:Value),VR m (pgetA x e) cxv→(SmallB row→BytesOf row rx)→VRs m row oc→VRs m l nc→(row ++ l)=(sbytes (row.length+l.length) (rx+256 ^ row.length * y)).map byteV∧rx+256 ^ row.length * y<256 ^ (row.length+l.length):=by
       intro m row rx oc nc cxv vx hrx hoc hnc
       obtain ⟨g1,g2⟩:=hrx hoc.small
       obtain ⟨g3,g4⟩:=hby2 m cxv vx hnc.small
       rw [sbytes_append _ _ _ _ g2,List.map_append,← g1,← g3]
       refine ⟨rfl, ?_⟩
       rw [Nat.pow_add]
       calc rx+256 ^ row.length * y<256 ^ row.length+256 ^ row.length * y:=by omega
        _=256 ^ row.length * (y+1):=by rw [Nat.mul_add,Nat.mul_one,Nat.add_comm]
        _≤256 ^ row.length * 256 ^ l.length:=Nat.mul_le_mul_left _ g4
      rcases vSliceN_ok h2 with ⟨b,off,len,cp,sz,hsv,h3⟩ | ⟨hsv,h3⟩
      ·cases n with
       | zero=>exact ⟨_,_,app_fin hop hp' hq' fun base w0 rho w cs cx hp vs vx=>app_none hT hN (Or.inl ⟨b,off,len,cp,sz,hsv⟩) hp vs vx,h3⟩
       | succ n=>
        have h4:appB id (n+1) y b off len cp sz H k=1:=h3
        unfold appB at h4
        rw [forceN_eq] at h4
        obtain ⟨h5,h6⟩:=ifB_no h4
        have hneed:=ble_of h5
        cases cp with
        | zero=>
         obtain ⟨h7,h8⟩:=ifB_no h6
         obtain ⟨h9,h10⟩:=ifB_no h8
         have e1:=beq_of h7
         have e2:=beq_of h9
         subst e1 e2
         rw [hGet_eq] at h10
         rcases bOn_ok h10 with ⟨l0,_,h11⟩ | ⟨ln,mx,hbb,h11⟩
         ·exact (no_ne h11).elim
         obtain ⟨h12,h13⟩:=ifB_no h11
         have e3:=beq_of h12
         subst e3
         rw [forceN_eq] at h13
         obtain ⟨H1,h14,h15⟩:=hSet_ok h13
         obtain ⟨H2,h16,h17⟩:=hNew_ok h14
         rw [h15.n] at h16
         have hbn:=h15.lt
         refine ⟨_,_,app_fin hop hp' hq' fun base w0 rho w cs cx hp vs vx => ?_,h16⟩
         rw [hsv] at vs
         have hrow:rowOf (H.get b)=some ((sbytes ln mx).map byteV):=by rw [hbb];rfl
         refine app_move (bl := .bytes (Nat.add ln (n+1)) (Nat.add mx (Nat.shiftLeft y (Nat.mul 8 ln)))) hT (by omega) hN (by omega) hrow (by simp [sbytes_length]) hneed (by rw [h17.n,h15.n]) (by rw [h17.wlo];exact h15.wlo) (by rw [h17.wlo];exact h15.wb) (by rw [h17.oth b (by rw [h15.n];omega)];exact h15.get) (by rw [← h15.n];exact h17.get) (fun j hj1 hj2=>by rw [h17.oth j (by rw [h15.n];exact hj2)];exact h15.oth j hj1) hp vs vx (hkd:=fun _ e=>nomatch e) fun oc nc hoc hnc => ?_
         have hcan:mx<256 ^ ln:=by
          have hmu:∃ c,(mu rho H w).b b c:=by simp only [VR] at vs;obtain ⟨c,_,_,_,_,hm,_⟩:=vs;exact ⟨c,hm⟩
          obtain ⟨c,hm⟩:=hmu
          obtain ⟨ob,_,q2⟩:=hp.blk b c (hp.rho_of hm hrow)
          rw [hbb] at q2
          obtain ⟨_,_,_,_,⟨hx,_⟩,_⟩:=q2
          exact hx
         obtain ⟨g1,g2⟩:=hjoin _ ((sbytes ln mx).map byteV) mx oc nc cx vx (fun _=>⟨by simp [sbytes_length],by simpa [sbytes_length] using hcan⟩) hoc hnc
         have hll:=(hN.2 hp vx).1
         simp only [List.length_map,sbytes_length] at g1 g2
         rw [hll,Nat.mul_one] at g1 g2
         have e9:Nat.add mx (Nat.shiftLeft y (Nat.mul 8 ln))=mx+256 ^ ln * y:=by rw [e8];rfl
         refine ⟨by rw [e9];simp only [rowOf];rw [g1];rfl,fun ln' m' e=>by cases e;rw [e9];exact g2,fun v hv => ?_⟩
         rcases List.mem_append.1 hv with hv | hv
         ·obtain ⟨yy,_,rfl⟩:=List.mem_map.1 hv;rfl
         ·exact hone v hv
        | succ qq=>
         have h7:ifB (Nat.ble (Nat.add len (n+1)) qq) (no _) (loadB id H b off len fun m=>forceN (Nat.add m (Nat.shiftLeft y (Nat.mul 8 len))) fun m'=>hNew H (.bytes (Nat.add len (n+1)) m') fun b' H=>k (.slice b' 0 (Nat.add len (n+1)) 0 1) H)=1:=h6
         rcases ifB_or h7 with ⟨_,h8⟩ | ⟨h8,h9⟩
         ·exact (no_ne h8).elim
         have hq:qq<len+(n+1):=by
          rcases Nat.lt_or_ge qq (len+(n+1)) with h | h
          ·exact h
          ·have:Nat.ble (Nat.add len (n+1)) qq=true:=Nat.ble_eq_true_of_le h
           rw [this] at h8;cases h8
         obtain ⟨row,rx,h10,h11,h12,h13,h14⟩:=loadB_ok h9
         rw [forceN_eq] at h12
         obtain ⟨H',h15,h16⟩:=hNew_ok h12
         refine ⟨_,_,app_fin hop hp' hq' fun base w0 rho w cs cx hp vs vx => ?_,h15⟩
         rw [hsv] at vs
         simp only [VR] at vs
         obtain ⟨c,cap,o',sp,rfl,hm,hlc,hcp,ho'⟩:=vs
         have hcq:=hcp.1 qq rfl
         subst hcq
         have hrl:((row.drop off).take len).length=len:=by simp;omega
         refine app_grow hT hN h16 hp vx (old:=(row.drop off).take len) (fun w1 hw1 hp1 => ?_) (by rw [hrl,Nat.mul_one]) hq hneed (fun oc nc hoc hnc => ?_)
         ·obtain ⟨oc,g1,g2⟩:=hp1.slice_cells (o':=o') (off:=off) (n:=len) hm h10 h11 (by
           rcases ho' with h | h
           ·exact Or.inl h
           ·right;omega)
          exact ⟨oc,by simpa [Builtin.firstCells] using g1,by rw [show mu rho H w=mu rho H w1 by unfold mu;rw [hw1]];exact g2⟩
         ·obtain ⟨g1,g2⟩:=hjoin _ ((row.drop off).take len) rx oc nc cx vx h14 hoc hnc
          have hll:=(hN.2 hp vx).1
          rw [hrl,hll,Nat.mul_one] at g1 g2
          have e9:Nat.add rx (Nat.shiftLeft y (Nat.mul 8 len))=rx+256 ^ len * y:=by rw [e8];rfl
          refine ⟨by rw [e9];simp only [rowOf];rw [g1];rfl,fun ln' m' e=>by cases e;rw [e9];exact g2,fun v hv => ?_⟩
          rcases List.mem_append.1 hv with hv | hv
          ·obtain ⟨yy,rfl⟩:=h13 v hv;rfl
          ·exact hone v hv
      ·cases n with
       | zero=>exact ⟨_,_,app_fin hop hp' hq' fun base w0 rho w cs cx hp vs vx=>app_none hT hN (Or.inr hsv) hp vs vx,h3⟩
       | succ n=>
        have h4:ifB (Nat.ble (n+1) 1073741824) (hNew H (.bytes (n+1) y) fun b' H=>k (.slice b' 0 (n+1) 0 1) H) (no _)=1:=h3
        obtain ⟨h5,h6⟩:=ifB_no h4
        have hneed:=ble_of h5
        obtain ⟨H',h7,h8⟩:=hNew_ok h6
        refine ⟨_,_,app_fin hop hp' hq' fun base w0 rho w cs cx hp vs vx => ?_,h7⟩
        rw [hsv] at vs
        simp only [VR] at vs
        subst vs
        have:=app_grow (ba:=none) (sLen:=0) (sCap:=0) (ot:=o.type) hT hN h8 hp vx (old:=[]) (fun w1 hw1 hp1=>⟨[],rfl,by simp only [VRs]⟩) (by simp) (by omega) (by omega) (fun oc nc hoc hnc=>by
         obtain ⟨g1,g2⟩:=hjoin _ [] 0 oc nc cx vx (fun _=>⟨rfl,by simp⟩) hoc hnc
         have hll:=(hN.2 hp vx).1
         simp only [List.length_nil,Nat.zero_add,Nat.pow_zero,Nat.one_mul,hll,Nat.mul_one] at g1 g2
         refine ⟨by simp only [rowOf];rw [g1],fun ln' m' e=>by cases e;exact g2,fun v hv=>hone v (by simpa using hv)⟩)
        rw [Nat.zero_add] at this
        exact this
     ·unfold eAppC at h1
      rw [getA_eq,getA_eq] at h1
      obtain ⟨n,l,h2,hN⟩:=newCells_ok (P:=P) h1
      rcases vSliceN_ok h2 with ⟨b,off,len,cp,sz,hsv,h3⟩ | ⟨hsv,h3⟩
      ·cases n with
       | zero=>exact ⟨_,_,app_fin hop hp' hq' fun base w0 rho w cs cx hp vs vx=>app_none hT hN (Or.inl ⟨b,off,len,cp,sz,hsv⟩) hp vs vx,h3⟩
       | succ n=>
        have h4:appC id s' (n+1) l b off len cp sz H k=1:=h3
        unfold appC at h4
        obtain ⟨hone,h4⟩:=allOne_ok h4
        rw [forceN_eq] at h4
        obtain ⟨h5,h6⟩:=ifB_no h4
        have hneed:=ble_of h5
        cases cp with
        | zero=>
         obtain ⟨h7,h8⟩:=ifB_no h6
         obtain ⟨h9,h10⟩:=ifB_no h8
         have e1:=beq_of h7
         have e2:=beq_of h9
         subst e1 e2
         rw [hGet_eq] at h10
         rcases bOn_ok h10 with ⟨l0,hbb,h11⟩ | ⟨ln,mx,_,h11⟩
         ·obtain ⟨h12,h13⟩:=ifB_no h11
          have e3:=beq_of h12
          rw [lenL_eq] at e3
          rw [appL_eq] at h13
          obtain ⟨H1,h14,h15⟩:=hSet_ok h13
          obtain ⟨H2,h16,h17⟩:=hNew_ok h14
          rw [h15.n] at h16
          have hbn:=h15.lt
          refine ⟨_,_,app_fin hop hp' hq' fun base w0 rho w cs cx hp vs vx => ?_,h16⟩
          rw [hsv] at vs
          have hrow:rowOf (H.get b)=some l0:=by rw [hbb];rfl
          refine app_move (bl := .cells (l0 ++ l)) hT hs0 hN (by omega) hrow e3 hneed (by rw [h17.n,h15.n]) (by rw [h17.wlo];exact h15.wlo) (by rw [h17.wlo];exact h15.wb) (by rw [h17.oth b (by rw [h15.n];omega)];exact h15.get) (by rw [← h15.n];exact h17.get) (fun j hj1 hj2=>by rw [h17.oth j (by rw [h15.n];exact hj2)];exact h15.oth j hj1) hp vs vx (hkd:=fun _ _=>⟨_,hbb⟩) fun oc nc hoc hnc=>⟨rfl,(fun _ _ e=>nomatch e),fun v hv => ?_⟩
          rcases List.mem_append.1 hv with hv | hv
          ·have hmu:∃ c,(mu rho H w).b b c:=by simp only [VR] at vs;obtain ⟨c,_,_,_,_,hm,_⟩:=vs;exact ⟨c,hm⟩
           obtain ⟨c,hm⟩:=hmu
           obtain ⟨_,_,_,_,q2⟩:=hp.row (hp.rho_of hm hrow) hrow
           obtain ⟨j,hj⟩:=List.getElem?_of_mem hv
           exact (q2.1 j v hj).1
          ·exact hone v hv
         ·exact (no_ne h11).elim
        | succ qq=>
         have h7:ifB (Nat.ble (Nat.add len (n+1)) qq) (storeN id H b (Nat.add off (Nat.mul len s')) l fun H=>k (.slice b off (Nat.add len (n+1)) (qq+1) sz) H) (loadN id H b off (Nat.mul len s') fun l0=>allOne id l0 (appL l0 l fun l'=>hNew H (.cells l') fun b' H=>k (.slice b' 0 (Nat.add len (n+1)) 0 s') H))=1:=h6
         rcases ifB_or h7 with ⟨h8,h9⟩ | ⟨h8,h9⟩
         ·obtain ⟨H',h10,h11⟩:=storeN_pure (P:=P) h9
          refine ⟨_,_,app_fin hop hp' hq' fun base w0 rho w cs cx hp vs vx => ?_,h10⟩
          rw [hsv] at vs
          exact app_in hT hN (by omega) (ble_of h8) hp vs vx hone h11
         ·have hq:qq<len+(n+1):=by
           rcases Nat.lt_or_ge qq (len+(n+1)) with h | h
           ·exact h
           ·have:Nat.ble (Nat.add len (n+1)) qq=true:=Nat.ble_eq_true_of_le h
            rw [this] at h8;cases h8
          obtain ⟨row,h10,h11,h12⟩:=loadN_ok h9
          obtain ⟨hone2,h13⟩:=allOne_ok h12
          rw [appL_eq] at h13
          obtain ⟨H',h15,h16⟩:=hNew_ok h13
          refine ⟨_,_,app_fin hop hp' hq' fun base w0 rho w cs cx hp vs vx => ?_,h15⟩
          rw [hsv] at vs
          simp only [VR] at vs
          obtain ⟨c,cap,o',sp,rfl,hm,hlc,hcp,ho'⟩:=vs
          have hcq:=hcp.1 qq rfl
          subst hcq
          have h11':off+len * s'≤row.length:=h11
          refine app_grow hT hN h16 hp vx (old:=(row.drop off).take (len * s')) (fun w1 hw1 hp1 => ?_) (by rw [List.length_take,List.length_drop];exact Nat.min_eq_left (by omega)) hq hneed (fun oc nc hoc hnc=>⟨rfl,(fun _ _ e=>nomatch e),fun v hv => ?_⟩)
          ·obtain ⟨oc,g1,g2⟩:=hp1.slice_cells (o':=o') (off:=off) (n:=len * s') hm h10 h11' (by
            rcases ho' with h | h
            ·exact Or.inl h
            ·right;have:len=0:=by omega
             subst this;omega)
           exact ⟨oc,by simpa [Builtin.firstCells] using g1,by rw [show mu rho H w=mu rho H w1 by unfold mu;rw [hw1]];exact g2⟩
          ·rcases List.mem_append.1 hv with hv | hv
           ·exact hone2 v hv
           ·exact hone v hv
      ·cases n with
       | zero=>exact ⟨_,_,app_fin hop hp' hq' fun base w0 rho w cs cx hp vs vx=>app_none hT hN (Or.inr hsv) hp vs vx,h3⟩
       | succ n=>
        have h4:allOne id l (ifB (Nat.ble (n+1) 1073741824) (hNew H (.cells l) fun b' H=>k (.slice b' 0 (n+1) 0 s') H) (no _))=1:=h3
        obtain ⟨hone,h4⟩:=allOne_ok h4
        obtain ⟨h5,h6⟩:=ifB_no h4
        have hneed:=ble_of h5
        obtain ⟨H',h7,h8⟩:=hNew_ok h6
        refine ⟨_,_,app_fin hop hp' hq' fun base w0 rho w cs cx hp vs vx => ?_,h7⟩
        rw [hsv] at vs
        simp only [VR] at vs
        subst vs
        have:=app_grow (ba:=none) (sLen:=0) (sCap:=0) (ot:=o.type) hT hN h8 hp vx (old:=[]) (fun w1 hw1 hp1=>⟨[],rfl,by simp only [VRs]⟩) (by simp) (by omega) (by omega) (fun oc nc hoc hnc=>⟨rfl,(fun _ _ e=>nomatch e),fun v hv=>hone v (by simpa using hv)⟩)
        rw [Nat.zero_add] at this
        exact this
    ·exact (no_ne h).elim
   ·exact (no_ne h).elim
  ·exact (no_ne h).elim
 ·exact (no_ne h).elim
end
end Go.Ev
end
