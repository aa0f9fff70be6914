/- EvD: a part of the evaluator,of its logic,or of the laws' walk in it. -/
import Derived.Test.YtdimchccafgdoaaGreatDoorEvC
import Derived.LoopNIn
import Derived.RangeFuncIn
import Derived.RangeFuncRecord
import Derived.RangeFuncNested
import Derived.Laws.Sem
import Derived.RangeFuncLeaves
set_option linter.unusedVariables false
set_option linter.unusedSimpArgs false
set_option linter.unusedSectionVars false
section
namespace Go.Ev
open Go.RowKit
theorem isolated_spec {l:List Bool} {bf:Array Nat} {i j:Nat} (h:isolated l bf i=true) (hj:l[j]? = some false) (hne:i≠j):(bf.getD i 0).testBit j=true∨(bf.getD j 0).testBit i=true:=by
 unfold isolated at h
 rw [List.all_eq_true] at h
 have:=h (false,j) (List.mem_zipIdx_iff_getElem?.2 hj)
 simp only [Bool.false_or,Bool.or_eq_true,beq_iff_eq] at this
 rcases this with (h1 | h1) | h1
 ·exact absurd h1.symm hne
 ·exact Or.inl h1
 ·exact Or.inr h1
def NS (P:Program) (nt:Nat) (c:Code) (e:Env) (H:Heap) (e':Env) (H':Heap):Prop:=
 ∀ (rd:Option Nat) (base:Nat) (w0:World) (rho:Nat→Option Nat) (w:World) (a:Act),PR P base w0 rho H w→TR (mu rho H w) nt e a.tmps →
  ∀ (Q:Exit→Act→World→Prop),(∀ a' w' rho',a'.defers=a.defers→PR P base w0 rho' H' w'→TR (mu rho' H' w') nt e' a'.tmps→Ext rho H w rho' H' w'→Q .normal a' w')→c.wpIn (WF rd) 0 P Q a w
theorem any_ok {P:Program} {nt:Nat} {ops:Array Oper} {id:Nat} {iso pur al:Nat→Bool} {E:Nat→Env} {Hh:Nat→Heap} {Vv:Nat→V} {B:Nat→Option Nat} (hm:P.follows .mixedOrders=true) (hap:apartOK ops (Region.before ops)=true) (hE:Edges ops)
  (hst:∀ j o,ops[j]? = some o→StepOK P nt ops (iso j) (pur j) (B j) o (E j) (Hh j) (Vv j) (E (j+1)) (Hh (j+1)))
  (hiso:∀ i j,Hard iso pur i→i≠j→pur j=false→j<ops.size→((Region.before ops).getD i 0).testBit j=true∨((Region.before ops).getD j 0).testBit i=true∨al j=true)
  (hhal:∀ i,Hard iso pur i→al i=false)
  (hal:∀ i o,ops[i]? = some o→al i=true→(GW nt (E i) ops o false∧Vv i = .tup []∧Hh (i+1)=Hh i)∨(AlOK P nt (E i) o (Hh i) (Vv i) (Hh (i+1)) ∧ ∀ k,k<ops.size→Hard iso pur k→i<k→ordd (Region.before ops) i k=false→(Hh i).n < (Hh k).n→(Hh (k+1)).get (Hh i).n=(Hh k).get (Hh i).n))
  (hB:∀ i b,i<ops.size→B i=some b→b < (Hh 0).n)
  (hkp:∀ i k b,i<ops.size→k<ops.size→B i=some b→Hard iso pur k→ordd (Region.before ops) i k=false→b < (Hh k).n→(Hh (k+1)).get b=(Hh k).get b) :
  NS P nt (.region id ops true) (E 0) (Hh 0) (E ops.size) (Hh ops.size):=fun rd b0 w0 rho w a hp ht Q hQ=>by
 have hp1:PR P b0 w0 rho (Hh 0) { w with drawn:=w.drawn+1 }:=hp.drawn _
 have ht1:TR (mu rho (Hh 0) { w with drawn:=w.drawn+1 }) nt (E 0) a.tmps:=ht
 have hrun:=text_run (iso:=iso) (pur:=pur) hst hp1 ht1
 have hhp:Heaps ops.size iso pur Hh:=⟨fun i hi=>by obtain ⟨⟨_,_,_,p,_⟩,_⟩:=hrun i hi;exact p.wn,fun i hi=>by obtain ⟨⟨_,_,_,p,_⟩,_⟩:=hrun i hi;exact p.out,
  fun i hi=>by obtain ⟨_,g⟩:=hrun (i+1) hi;exact ⟨(g i (by omega)).1,(g i (by omega)).2.1⟩,fun i hi=>by obtain ⟨_,g⟩:=hrun (i+1) hi;exact (g i (by omega)).2.2⟩
 have hke:∀ i,i<ops.size → ∀ t,t<nt → ∃ m c,VR m (pget (slotOf t) (E i)) c ∧ ∀ b c',m.b b c'→b < (Hh i).n:=fun i hi t hlt=>by
  obtain ⟨⟨rho',w',a',p,tr⟩,_⟩:=hrun i (by omega)
  have hs:=tr.size
  have hlt':t<a'.tmps.size:=by omega
  exact ⟨_,_,tr.get t _ (Array.getElem?_eq_getElem hlt'),fun b c' hm=>hm.1⟩
 refine wpIn_region_any hm ?_
 obtain ⟨T,t1,t2,t3,t4⟩:=next_hard iso pur ops.size _ 0 rfl (Nat.zero_le _)
 obtain ⟨b1,b2⟩:=bat hhp T t2 0 t1 t4
 obtain ⟨p2,m2⟩:=hp1.grow b1 (hhp.wn T t2) (hhp.out T t2)
 have hnb:∀ k,(Array.replicate ops.size false).getD k false=false:=fun k=>by
  rw [Array.getD_eq_getD_getElem?,Array.getElem?_replicate]
  split <;> rfl
 have x2:Ext rho (Hh 0) w rho (Hh T) { w with drawn:=w.drawn+1 }:=⟨b1.n,by omega,Nat.le_refl _,fun b hb _=>⟨b1.get b hb,rfl⟩,fun _ _ _ h=>h,fun _ _ h _=>h,fun b hb ha=>by rw [← b1.get b hb];exact ha,fun b c hb hr=>absurd (hp.lt b c hr) (by omega),fun _ _ _=>rfl,fun b hb=>⟨by
  have hbn:b < (Hh 0).n:=by
   rcases Nat.lt_or_ge b (Hh 0).n with h | h
   ·exact h
   ·rw [b1.out b h] at hb;cases hb
  rw [b1.get b hbn];exact hb,rfl,fun _ _=>rfl⟩,fun c cs e fr hc=>⟨cs,e,fr,hc,rfl⟩,fun c r hc=>⟨r,hc⟩⟩
 obtain ⟨Hy,y1,y2,y3,y4⟩:=heap_of (fun b=>if b < (Hh T).n then (Hh T).get b else .cells []) (Hh ops.size).n (Hh T).wlo
 have hTN:=(mono_n hhp ops.size (Nat.le_refl _) T t2).1
 have hylo:∀ b,b < (Hh T).n→Hy.get b=(Hh T).get b:=fun b hb=>by rw [y3 b (by omega),if_pos hb]
 have bY:Part (Hh T) Hy:=⟨by rw [y1];exact hTN,hylo,hhp.out T t2⟩
 obtain ⟨p3,m3⟩:=p2.grow bY (by rw [y1,y2];have:=hhp.wn T t2;omega) (fun b hb=>y4 b (by rw [← y1];exact hb))
 have h0T:=(mono_n hhp T t2 0 (Nat.zero_le _)).1
 have x3:Ext rho (Hh 0) w rho Hy { w with drawn:=w.drawn+1 }:=x2.re hp.lt (fun b c h=>(hp.dom b c h).2.2.1) hp.out (by rw [y1];omega) y2 (fun b hb=>hylo b (by omega)) (fun _ _=>rfl) (fun b c _ h=>Or.inl h) (fun _ _=>rfl) (Nat.le_refl _)
 refine walk (al:=al) (rho0:=rho) (w00:=w) (ds:=a.defers) hst hE hap hiso hhal hal hhp ht.le hp.lt (fun b c h=>(hp.dom b c h).2.2.1) hB hkp hke (fun a' w' rho' g1 g2 g3 g4=>hQ a' w' rho' g1 g2 g3 g4) hp.out ops.size _ _ _ T rho Hy
  ⟨by simp,(fun j hj=>by unfold Been at hj;rw [hnb] at hj;cases hj),t2,t3,(fun hb=>by unfold Been at hb;rw [hnb] at hb;cases hb),fun i hi hh=>absurd hh (t4 i (Nat.zero_le _) hi),y1,y2,hylo,fun b hb hb' => ?_,p3,x3, ?_,rfl,fun b c hr k hk _ => ?_,fun b c hr k hk hkj hb => ?_,fun b c hr hb => ?_⟩ (by simp [List.count_replicate])
 ·rw [y3 b (by rw [← y1];exact hb'),if_neg (by omega)]
  trivial
 ·have:(fun k=>(Array.replicate ops.size false).getD k false)=fun _=>false:=funext hnb
  rw [this,envS_none fun _=>rfl]
  exact ht1.mono (M.le_trans m2 m3)
 ·have:=hp.lt b c hr
  have:=(mono_n hhp k (by omega) 0 (Nat.zero_le _)).1
  omega
 ·exact (hp1.kn hr).part (bat hhp k (by omega) 0 (Nat.zero_le _) fun j h5 h6=>t4 j h5 (by omega)).1 (hp.lt b c hr)
 ·have:=hp.lt b c hr
  omega
theorem isolatedA_spec {l al:List Bool} {bf:Array Nat} {i j:Nat} (h:isolatedA l al bf i=true) (hj:l[j]? = some false) (hne:i≠j):(bf.getD i 0).testBit j=true∨(bf.getD j 0).testBit i=true∨(al.getD j false=true∧i<j):=by
 unfold isolatedA at h
 rw [Bool.and_eq_true] at h
 have h:=h.2
 rw [List.all_eq_true] at h
 have:=h (false,j) (List.mem_zipIdx_iff_getElem?.2 hj)
 simp only [Bool.false_or,Bool.or_eq_true,beq_iff_eq,Bool.and_eq_true] at this
 rcases this with ((h1 | h1) | h1) | h1
 ·exact absurd h1.symm hne
 ·exact Or.inl h1
 ·exact Or.inr (Or.inl h1)
 ·exact Or.inr (Or.inr ⟨h1.1,by have:=h1.2;unfold Nat.blt at this;exact Nat.le_of_ble_eq_true this⟩)
theorem dreg_ok {P:Program} {nt:Nat} {ph:Phi} {ops:Array Oper} {base id:Nat} {r:List OpW} {e:Env} {H:Heap} {k:Env→Heap→R} (hm:P.follows .mixedOrders=true) (hph:PhiOK P ph) (hap:apartOK ops (Region.before ops)=true) (hed:edgesOK ops=true)
  (hc:compRegG P nt base ops (ops.toList.map fun o=>pureOp (compOp P nt o)) (ops.toList.map fun o=>isAl (compOp P nt o)) (Region.before ops) ops.toList 0=some r) (h:evDreg ph r e H k=1):∃ e' H',NS P nt (.region id ops true) e H e' H'∧k e' H'=1:=by
 obtain ⟨E,Hh,Vv,h1,h2,h3,h5,h4⟩:=evDreg_ok hph ops.toList 0 r e H k hc h
 have hE:=edges_of hed
 subst h1 h2
 have hpur:∀ (j:Nat) (o:Oper),ops[j]? = some o→(ops[j]?.map fun o=>pureOp (compOp P nt o)).getD true=pureOp (compOp P nt o):=fun j o hj=>by simp [hj]
 have halg:∀ (j:Nat),(ops.toList.map fun o=>isAl (compOp P nt o)).getD j false=true → ∃ o,ops[j]? = some o∧isAl (compOp P nt o)=true:=fun j hj=>by
  rw [List.getD_eq_getElem?_getD,List.getElem?_map,Array.getElem?_toList] at hj
  cases ho:ops[j]? with
  | none=>rw [ho] at hj;simp at hj
  | some o=>rw [ho] at hj;exact ⟨o,rfl,by simpa using hj⟩
 have hni:∀ j,(ops.toList.map fun o=>isAl (compOp P nt o)).getD j false=true→isolatedA (ops.toList.map fun o=>pureOp (compOp P nt o)) (ops.toList.map fun o=>isAl (compOp P nt o)) (Region.before ops) j=false:=fun j hj=>by
  unfold isolatedA
  rw [hj]
  rfl
 refine ⟨_,_,any_ok (iso:=fun j=>isolatedA (ops.toList.map fun o=>pureOp (compOp P nt o)) (ops.toList.map fun o=>isAl (compOp P nt o)) (Region.before ops) j) (pur:=fun j=>(ops[j]?.map fun o=>pureOp (compOp P nt o)).getD true) (al:=fun j=>(ops.toList.map fun o=>isAl (compOp P nt o)).getD j false) (Vv:=Vv) (B:=fun _=>none) hm hap hE (fun j o hj => ?_) (fun i j hi hne hpj hj => ?_) (fun i hi => ?_) (fun i o ho hi => ?_) (fun i b _ hb=>by cases hb) (fun i k b _ _ hb=>by cases hb),by simpa using h4⟩
 ·have:=h3 j o (by simpa using hj)
  rw [Nat.zero_add] at this
  rw [hpur j o hj]
  exact this
 ·refine (isolatedA_spec hi.1 ?_ hne).imp (fun h=>h) (Or.imp (fun h=>h) And.left)
  have hex:ops[j]? = some ops[j]:=Array.getElem?_eq_getElem hj
  have:pureOp (compOp P nt ops[j])=false:=by
   rw [hpur j _ hex] at hpj
   exact hpj
  simp [hj,this]
 ·cases hx:(ops.toList.map fun o=>isAl (compOp P nt o)).getD i false with
  | false=>rfl
  | true=>exact absurd (hi.1.symm.trans (hni i hx)) (by simp)
 ·obtain ⟨o',g1,g2⟩:=halg i hi
  rw [ho] at g1
  cases g1
  have:=h5 i o (by simpa using ho) g2
  rw [Nat.zero_add] at this
  refine (this (hni i hi)).imp (fun h=>h) fun hA=>⟨hA,fun k hk hh hik hord hlt => ?_⟩
  exfalso
  have hpf:(ops.toList.map fun o=>pureOp (compOp P nt o))[i]? = some false:=by
   rw [List.getElem?_map,Array.getElem?_toList,ho]
   cases hcc:compOp P nt o <;> rw [hcc] at g2 <;> first | (cases g2;done) | simp [hcc,pureOp]
  unfold ordd at hord
  rw [Bool.or_eq_false_iff] at hord
  rcases isolatedA_spec hh.1 hpf (by omega) with h8 | h8 | h8
  ·rw [hord.2] at h8;cases h8
  ·rw [hord.1] at h8;cases h8
  ·omega
theorem isolatedL_spec {l la:List Bool} {bf:Array Nat} {i j:Nat} (h:isolatedL l la bf i=true) (hj:l[j]? = some false) (hne:i≠j):(bf.getD i 0).testBit j=true∨(bf.getD j 0).testBit i=true∨la.getD j false=true:=by
 unfold isolatedL at h
 rw [List.all_eq_true] at h
 have:=h (false,j) (List.mem_zipIdx_iff_getElem?.2 hj)
 simp only [Bool.false_or,Bool.or_eq_true,beq_iff_eq,Bool.and_eq_true] at this
 rcases this with ((h1 | h1) | h1) | h1
 ·exact absurd h1.symm hne
 ·exact Or.inl h1
 ·exact Or.inr (Or.inl h1)
 ·exact Or.inr (Or.inr h1.1)
theorem freg_ok {P:Program} {nt:Nat} {ph:Phi} {ops:Array Oper} {base id:Nat} {r:List OpW2} {e:Env} {H:Heap} {k:Env→Heap→R} (hm:P.follows .mixedOrders=true) (hph:PhiOK P ph) (hap:apartOK ops (Region.before ops)=true) (hed:edgesOK ops=true)
  (hc:compFregG P nt base ops (ops.toList.map (compOp P nt)) (Region.before ops) ops.toList 0=some r) (h:evFreg ph H.n r e H [] [] k=1):∃ e' H',NS P nt (.region id ops true) e H e' H'∧k e' H'=1:=by
 have hE:=edges_of hed
 obtain ⟨E,Hh,Vv,B,h1,h2,h3,h4,h5,h6,h7,h8⟩:=evFreg_ok hph (fun x y=>before_lt hE x y) ops.toList 0 r e H [] [] k hc (fun j o hj=>by rw [Nat.zero_add,List.getElem?_map,hj];rfl) (fun p hp=>by cases hp) h
 subst h1 h2
 have hlen:ops.toList.length=ops.size:=by simp
 simp only [Nat.zero_add] at h3 h5 h6 h7 h8
 have hpur:∀ (j:Nat) (o:Oper),ops[j]? = some o→(ops.toList.map (compOp P nt)).getD j .bad=compOp P nt o:=fun j o hj=>by
  rw [List.getD_eq_getElem?_getD,List.getElem?_map,Array.getElem?_toList,hj]
  rfl
 refine ⟨_,_,any_ok (al:=fun j=>lateB (ops.toList.map (compOp P nt)) (Region.before ops) j) (iso:=fun j=>isoF (ops.toList.map (compOp P nt)) (Region.before ops) j) (pur:=fun j=>purAt (ops.toList.map (compOp P nt)) (Region.before ops) j) (Vv:=Vv) (B:=B) hm hap hE (fun j o hj=>h3 j o (by simpa using hj)) (fun i j hi hne hpj hj => ?_) (fun i hi => ?_) (fun i o ho hi => ?_) (fun i b hi hb=>(h5 i b (by rw [hlen];exact hi) hb).1) (fun i k b hi hk hb hh hord hlt=>h7 i k b (by rw [hlen];exact hi) (by rw [hlen];exact hk) hb hh.1 hh.2 hord hlt),by simpa using h4⟩
 rotate_left
 ·cases hx:lateB (ops.toList.map (compOp P nt)) (Region.before ops) i with
  | false=>rfl
  | true=>exact absurd (hi.1.symm.trans (late_iso hx)) (by simp)
 ·refine (h8 i o (by simpa using ho) hi).imp (fun h=>h) fun hA=>⟨hA.1,fun k hk hh hik hord hlt=>hA.2 k hik (by rw [hlen];exact hk) hh.1 hh.2 hord hlt⟩
 have hi1:=hi.1
 unfold isoF at hi1
 rw [Bool.and_eq_true] at hi1
 have hlast:∀ {x:Bool},(lateL (ops.toList.map (compOp P nt)) (Region.before ops)).getD j false=x→lateB (ops.toList.map (compOp P nt)) (Region.before ops) j=x:=fun {x} hx=>by
  rw [← hx]
  unfold lateL
  rw [List.getD_eq_getElem?_getD,List.getElem?_map,List.getElem?_zipIdx,List.getElem?_map,Array.getElem?_toList,Array.getElem?_eq_getElem hj]
  simp
 refine (isolatedL_spec hi1.1 ?_ hne).imp (fun h=>h) (Or.imp (fun h=>h) hlast)
 unfold purL
 rw [List.getElem?_map]
 have hex:ops[j]? = some ops[j]:=Array.getElem?_eq_getElem hj
 have hz:(ops.toList.map (compOp P nt)).zipIdx[j]? = some (compOp P nt ops[j],j):=by
  rw [List.getElem?_zipIdx,List.getElem?_map,Array.getElem?_toList,hex]
  simp
 rw [hz]
 unfold purAt at hpj
 rw [hpur j _ hex] at hpj
 simpa using hpj
end Go.Ev
end
section
namespace Go.Ev
open Go.RowKit
theorem setCell_same {w:World} {a:Addr} {v:Value} (h:w.cell? a=some v):w.setCell a v=w:=by
 unfold World.cell? at h
 unfold World.setCell
 cases ha:w.heap[a.block]? with
 | none=>rw [ha] at h;cases h
 | some o=>
  rw [ha] at h
  cases w with
  | mk heap tape drawn os output=>
   congr 1
   apply Array.ext_getElem?
   intro i
   rw [Array.getElem?_modify]
   by_cases hi:a.block=i
   ·subst hi
    simp only at ha
    rw [if_pos rfl,ha]
    cases o <;> simp at h ⊢
    rename_i cs e fr
    intro _
    replace h:=h.2
    apply Array.ext_getElem?
    intro j
    by_cases hj:a.off=j
    ·subst hj
     rw [Array.getElem?_setIfInBounds]
     obtain ⟨hlt,hv⟩:=Array.getElem?_eq_some_iff.1 h
     simp [hlt,hv]
    ·rw [Array.getElem?_setIfInBounds_ne hj]
   ·rw [if_neg hi]
section
variable {P:Program} {nt:Nat} {id:Nat} {ph:Phi} {e:Env} {H:Heap} {k:K}
theorem store_back {w:World} {g o:Nat}:∀ (vs:List Value) (i:Nat),(∀ (j:Nat) v,vs[j]? = some v→w.cell? ⟨g,o+i+j,none⟩=some v∧v.oneCell'=true∧w.frozen? ⟨g,o+i+j,none⟩=false)→(storeCells ⟨g,o,none⟩ vs i).run P w = .ok () w
 | [],i,_=>rfl
 | v :: vs,i,h=>by
  obtain ⟨h1,h2,h3⟩:=h 0 v rfl
  rw [Nat.add_zero] at h1 h3
  have ih:=store_back (w:=w) vs (i+1) fun j u hu=>by
   have:=h (j+1) u (by simpa using hu)
   rw [show o+i+(j+1)=o+(i+1)+j by omega] at this
   exact this
  simp only [storeCells,Sem.run_bind,Addr.add_lit,run_store P w _ v .plain h2,h1,h3,setCell_same h1]
  simpa using ih
def RdOK (P:Program) (H:Heap) (x:V) (t:TypeId) (v:V):Prop:=∀ {base:Nat} {w0 w:World} {rho:Nat→Option Nat} {cx:Value},PR P base w0 rho H w→VR (mu rho H w) x cx → ∃ cv,(Instr.loadAt t cx).run P w = .ok cv w∧VR (mu rho H w) v cv∧(Instr.storeAt t cx cv).run P w = .ok () w
theorem load_rd {o:Oper} {t:TypeId} {s:Nat} (hop:o.op = .load t (.tmp s)) (h1:oneT P t=true) (h:evOp (compOp P nt o) id ph e H k=1):∃ v,k v H=1∧RdOK P H (pget (slotOf s) e) t v:=by
 simp only [compOp,hop] at h
 split at h
 ·rename_i x' n hx hag hsz
  have hx':x' = .s (slotOf s):=by
   unfold compArg at hx
   simp only at hx
   split at hx
   ·cases hx;rfl
   ·cases hx
  subst hx'
  have h':eLoadA n (.s (slotOf s)) id ph e H k=1:=h
  unfold eLoadA at h'
  rw [getA_eq] at h'
  obtain ⟨b,off,hb,h1⟩:=vPtr_ok h'
  obtain ⟨row,h2,h3,h30,h4⟩:=rdN_ok h1
  refine ⟨_,h4,fun {base w0 w rho cx} hp vx => ?_⟩
  replace hb:pget (slotOf s) e = .ptr b off:=hb
  rw [hb] at vx
  simp only [VR] at vx
  obtain ⟨c,rfl,hm⟩:=vx
  obtain ⟨cs,g1,g2,g3,g4⟩:=hp.rcells (hp.rho_rd hm h2) h2 h3 h30
  refine ⟨.agg cs.toArray,by simp [Instr.loadAt,Instr.sureAddr,loadVar,run_isAgg hag,run_sizeOf' hsz,g1],by simp only [VR];exact ⟨_,rfl,g2⟩, ?_⟩
  have hst:(storeCells ⟨c,off,none⟩ cs 0).run P w = .ok () w:=store_back cs 0 fun j v hv=>by
   have:=g4 j v hv
   simpa using this
  have hcl:cs.toArray.size=n:=by simpa using g3
  simp [Instr.storeAt,Instr.sureAddr,storeVar,Value.cells,run_sizeOf' hsz,hcl,hst]
 ·rename_i _ x' hx hag
  have hx':x' = .s (slotOf s):=by
   unfold compArg at hx
   simp only at hx
   split at hx
   ·cases hx;rfl
   ·cases hx
  subst hx'
  have h':eLoad1 (.s (slotOf s)) id ph e H k=1:=h
  unfold eLoad1 at h'
  rw [getA_eq] at h'
  obtain ⟨b,off,hb,h1'⟩:=vPtr_ok h'
  obtain ⟨row,v,h2,h3,h30,h4⟩:=rdC_ok h1'
  refine ⟨_,h4,fun {base w0 w rho cx} hp vx => ?_⟩
  replace hb:pget (slotOf s) e = .ptr b off:=hb
  rw [hb] at vx
  simp only [VR] at vx
  obtain ⟨c,rfl,hm⟩:=vx
  obtain ⟨cv,g1,g2,g3,g4⟩:=hp.rcell (hp.rho_rd hm h2) h2 h3 h30
  have hsz:szT P t=some 1:=by
   unfold oneT at h1
   rw [hag] at h1
   simpa using h1
  refine ⟨cv,by simp [Instr.loadAt,Instr.sureAddr,loadVar,run_isAgg hag,g1],g2, ?_⟩
  have ho:=one_cell' g2 g3
  have hcv:cv.cells = #[cv]:=by
   obtain ⟨n1,n2⟩:=g2.one g3
   cases cv <;> first | rfl | exact absurd rfl (n1 _) | exact absurd rfl (n2 _)
  have hst:(storeCells ⟨c,off,none⟩ [cv] 0).run P w = .ok () w:=by
   refine store_back [cv] 0 fun j v hv => ?_
   cases j with
   | succ j=>simp at hv
   | zero=>
    simp at hv
    subst hv
    exact ⟨g1,ho,g4⟩
  simp [Instr.storeAt,Instr.sureAddr,storeVar,hcv,run_sizeOf' hsz,hst]
 ·exact (no_ne h).elim
theorem loadOf_spec {o:Oper} {t:TypeId} {s d:Nat} (h:loadOf o=some (t,s,d)):o.op = .load t (.tmp s)∧o.dst=some d∧o.guard=none:=by
 unfold loadOf at h
 split at h
 ·rename_i h1 h2 h3
  cases h
  exact ⟨h1,h2,h3⟩
 ·cases h
def LoadsTo (P:Program) (nt:Nat) (H:Heap):List Oper→Env→Env→Prop
 | [],e,e'=>e'=e
 | o :: l,e,e' => ∃ (t:TypeId) (s d:Nat) (v:V),loadOf o=some (t,s,d)∧s<nt∧d<nt∧RdOK P H (pget (slotOf s) e) t v∧LoadsTo P nt H l (pset (slotOf d) v e) e'
theorem compArg_tmp {s:Nat} {x:Arg} (h:compArg nt (.tmp s)=some x):s<nt:=by
 unfold compArg at h
 simp only at h
 split at h
 ·assumption
 ·cases h
theorem loads_ok {base:Nat} {ops:Array Oper}:∀ (l:List Oper) (i:Nat) (r:List OpW) (e:Env) (k:Env→Heap→R),(∀ o ∈ l,isLoad o=true)→(∀ o ∈ l,∀ (t:TypeId) (s d:Nat),loadOf o=some (t,s,d)→oneT P t=true)→compRegG P nt base ops [] [] #[] l i=some r→evReg ph r e H k=1 → ∃ e',k e' H=1∧LoadsTo P nt H l e e'
 | [],i,r,e,k,_,_,hc,h=>by
  simp only [compRegG,Option.some.injEq] at hc
  subst hc
  exact ⟨e,h,rfl⟩
 | o :: l,i,r,e,k,hl,h1,hc,h=>by
  obtain ⟨⟨t,s,d⟩,hld⟩:=Option.isSome_iff_exists.1 (hl o (List.mem_cons_self ..))
  obtain ⟨hop,hd,hg⟩:=loadOf_spec hld
  simp only [compRegG,hd,hg,guardOf] at hc
  split at hc
  ·rename_i dd gg r' hdd hgg hr
   cases hgg
   cases hc
   simp only [dstOf] at hdd
   split at hdd
   ·rename_i hdn
    cases hdd
    have h':evOp (compOp P nt o) (base+i) ph e H (fun v H'=>setS (slotOf d) v e fun e'=>evReg ph r' e' H' k)=1:=h
    obtain ⟨v,h2,h3⟩:=load_rd hop (h1 o (List.mem_cons_self ..) t s d hld) h'
    rw [setS_eq] at h2
    have hs:s<nt:=by
     have h4:=h'
     simp only [compOp,hop] at h4
     split at h4
     ·rename_i hx _ _;exact compArg_tmp hx
     ·rename_i hx _;exact compArg_tmp hx
     ·exact (no_ne h4).elim
    obtain ⟨e',h5,h6⟩:=loads_ok l (i+1) r' _ k (fun q hq=>hl q (List.mem_cons_of_mem _ hq)) (fun q hq=>h1 q (List.mem_cons_of_mem _ hq)) hr h2
    exact ⟨e',h5,t,s,d,v,hld,hs,hdn,h3,h6⟩
   ·cases hdd
  ·cases hc
theorem LoadsTo.other (hnt:nt≤512):∀ {l:List Oper} {e e':Env},LoadsTo P nt H l e e' → ∀ x,x<512→(∀ o ∈ l,∀ (t:TypeId) (s d:Nat),loadOf o=some (t,s,d)→d≠x)→pget (slotOf x) e'=pget (slotOf x) e
 | [],e,e',h,x,_,_=>by rw [show e'=e from h]
 | o :: l,e,e',h,x,hx,hd=>by
  obtain ⟨t,s,d,v,h1,h2,h3,h4,h5⟩:=h
  rw [LoadsTo.other hnt h5 x hx fun q hq=>hd q (List.mem_cons_of_mem _ hq),pget_pset,if_neg]
  intro e
  exact hd o (List.mem_cons_self ..) t s d h1 (slotOf_inj hx (by omega) e).symm
theorem LoadsTo.spec (hnt:nt≤512):∀ {l:List Oper} {e e':Env},LoadsTo P nt H l e e'→(l.filterMap fun o=>(loadOf o).map (·.2.2)).Nodup→(∀ o ∈ l,∀ o' ∈ l,∀ (t:TypeId) (s d:Nat) (t':TypeId) (s' d':Nat),loadOf o=some (t,s,d)→loadOf o'=some (t',s',d')→s≠d') →
  ∀ o ∈ l,∀ (t:TypeId) (s d:Nat),loadOf o=some (t,s,d)→s<nt∧d<nt∧RdOK P H (pget (slotOf s) e) t (pget (slotOf d) e')
 | [],_,_,_,_,_,o,ho,_,_,_,_=>by cases ho
 | q :: l,e,e',h,hn,hs,o,ho,t,s,d,hld=>by
  obtain ⟨t0,s0,d0,v0,h1,h2,h3,h4,h5⟩:=h
  have hn':d0 ∉ (l.filterMap fun o=>(loadOf o).map (·.2.2))∧(l.filterMap fun o=>(loadOf o).map (·.2.2)).Nodup:=by
   rw [List.filterMap_cons,h1] at hn
   simpa using hn
  rcases List.mem_cons.1 ho with rfl | ho'
  ·rw [h1] at hld
   cases hld
   refine ⟨h2,h3, ?_⟩
   rw [LoadsTo.other hnt h5 d (by omega) fun q hq t s d hq' e=>hn'.1 (List.mem_filterMap.2 ⟨q,hq,by rw [hq',e];rfl⟩),pget_pset,if_pos rfl]
   exact h4
  ·obtain ⟨g1,g2,g3⟩:=LoadsTo.spec hnt h5 hn'.2 (fun a ha b hb=>hs a (List.mem_cons_of_mem _ ha) b (List.mem_cons_of_mem _ hb)) o ho' t s d hld
   refine ⟨g1,g2, ?_⟩
   have hsd:=hs o ho q (List.mem_cons_self ..) t s d t0 s0 d0 hld h1
   rw [pget_pset,if_neg] at g3
   ·exact @g3
   ·intro e
    exact hsd (slotOf_inj (by omega) (by omega) e)
theorem back_ok {ops:Array Oper} {base bid:Nat} {r:List OpW} {k:Env→Heap→R} (hm:P.follows .mixedOrders=true) (hb:backOK P ops=true)
  (hc:compRegG P nt base ops [] [] #[] (ops.toList.filter isLoad) 0=some r) (h:evReg ph r e H k=1):∃ e',NS P nt (.region bid ops true) e H e' H∧k e' H=1:=by
 unfold backOK at hb
 simp only [Bool.and_eq_true,decide_eq_true_eq,List.all_eq_true] at hb
 obtain ⟨⟨⟨hed,hall⟩,hnd⟩,hads⟩:=hb
 have hads':∀ o ∈ ops.toList,∀ (t:TypeId) (s d:Nat),loadOf o=some (t,s,d)→s ∉ loadDsts ops∧oneT P t=true:=fun o ho t s d hl=>by
  have:=hads o ho
  rw [hl] at this
  simpa using this
 obtain ⟨e',h1,h2⟩:=loads_ok (ops.toList.filter isLoad) 0 r e k (fun o ho=>(List.mem_filter.1 ho).2) (fun o ho t s d hl=>(hads' o (List.mem_filter.1 ho).1 t s d hl).2) hc h
 refine ⟨e',fun rd b0 w0 rho w a hp ht Q hQ => ?_,h1⟩
 have hnt:=ht.le
 have hfm:(ops.toList.filter isLoad).filterMap (fun o=>(loadOf o).map (·.2.2))=loadDsts ops:=by
  unfold loadDsts
  rw [List.filterMap_filter]
  congr 1
  funext o
  unfold isLoad
  cases loadOf o <;> rfl
 have hmemd:∀ o ∈ ops.toList,∀ (t:TypeId) (s d:Nat),loadOf o=some (t,s,d)→d ∈ loadDsts ops:=fun o ho t s d hl=>List.mem_filterMap.2 ⟨o,ho,by rw [hl];rfl⟩
 have hspec:=LoadsTo.spec hnt h2 (by rw [hfm];exact hnd) fun o ho o' ho' t s d t' s' d' hl hl' e=>(hads' o (List.mem_filter.1 ho).1 t s d hl).1 (by rw [e];exact hmemd o' (List.mem_filter.1 ho').1 t' s' d' hl')
 have hE:=edges_of hed
 refine wpIn_region_any hm ?_
 have hp1:PR P b0 w0 rho H { w with drawn:=w.drawn+1 }:=hp.drawn _
 have ht1:TR (mu rho H { w with drawn:=w.drawn+1 }) nt e a.tmps:=ht
 have x1:Ext rho H w rho H { w with drawn:=w.drawn+1 }:=⟨Nat.le_refl _,Nat.le_refl _,Nat.le_refl _,fun _ _ _=>⟨rfl,rfl⟩,fun _ _ _ h=>h,fun _ _ h _=>h,fun _ _ h=>h,fun b c hb h=>absurd (hp.lt b c h) (by omega),fun _ _ _=>rfl,fun b hb=>⟨hb,rfl,fun _ _=>rfl⟩,fun c cs e fr hc=>⟨cs,e,fr,hc,rfl⟩,fun c r hc=>⟨r,hc⟩⟩
 generalize hw1:({ w with drawn:=w.drawn+1 }:World)=w1 at hp1 ht1 x1 ⊢
 have hQ':∀ a',a'.defers=a.defers→TR (mu rho H w1) nt e' a'.tmps→Q .normal a' w1:=fun a' g1 g2=>hQ a' w1 rho g1 hp1 g2 x1
 clear hQ hp ht hw1
 have hsize:=ht1.size
 have hrd:∀ o ∈ ops.toList,∀ (t:TypeId) (s d:Nat),loadOf o=some (t,s,d)→s<nt∧d<nt ∧ ∃ cv,(Instr.loadAt t (a.eval (.tmp s))).run P w1 = .ok cv w1∧VR (mu rho H w1) (pget (slotOf d) e') cv∧(Instr.storeAt t (a.eval (.tmp s)) cv).run P w1 = .ok () w1:=fun o ho t s d hl=>by
  obtain ⟨g1,g2,g3⟩:=hspec o (List.mem_filter.2 ⟨ho,by unfold isLoad;rw [hl];rfl⟩) t s d hl
  have hlt:s<a.tmps.size:=by omega
  have hex:a.tmps[s]? = some a.tmps[s]:=Array.getElem?_eq_getElem hlt
  have hev:a.eval (.tmp s)=a.tmps[s]:=by simp [Act.eval,hex]
  obtain ⟨cv,q1,q2,q3⟩:=g3 hp1 (ht1.get s _ hex)
  rw [← hev] at q1 q3
  exact ⟨g1,g2,cv,q1,q2,q3⟩
 let Dn:Array Bool→Nat→Prop:=fun listed t => ∃ (j:Nat) (o:Oper) (ty:TypeId) (s:Nat),ops[j]? = some o∧loadOf o=some (ty,s,t)∧Been listed j
 let Inv:Array Bool→Act→Prop:=fun listed a'=>a'.defers=a.defers∧a'.tmps.size=nt∧(∀ t:Nat,¬ Dn listed t→a'.tmps[t]? = a.tmps[t]?) ∧ ∀ (j:Nat) (o:Oper) (ty:TypeId) (s d:Nat),ops[j]? = some o→loadOf o=some (ty,s,d)→Been listed j → ∃ cv,a'.tmps[d]? = some cv∧(Instr.loadAt ty (a.eval (.tmp s))).run P w1 = .ok cv w1
 have fin:∀ listed a',Inv listed a'→(∀ i,i<ops.size→Been listed i)→Q .normal a' w1:=fun listed a' ⟨g1,g2,g3,g4⟩ hb=>by
  refine hQ' a' g1 ⟨g2,hnt,fun t v hv => ?_,fun t q1 q2 => ?_⟩
  ·have htn:t<nt:=by rw [← g2];exact (Array.getElem?_eq_some_iff.1 hv).1
   by_cases hd:Dn listed t
   ·obtain ⟨j,o,ty,s,q1,q2,q3⟩:=hd
    obtain ⟨cv,q4,q5⟩:=g4 j o ty s t q1 q2 q3
    rw [hv] at q4
    cases q4
    obtain ⟨_,_,cv',q6,q7,_⟩:=hrd o (by rw [← Array.getElem?_toList] at q1;exact List.mem_of_getElem? q1) ty s t q2
    rw [q5] at q6
    cases q6
    exact q7
   ·rw [g3 t hd] at hv
    rw [LoadsTo.other hnt h2 t (by omega) fun o ho ty s d hl e=>hd ?_]
    ·exact ht1.get t v hv
    ·obtain ⟨j,hj⟩:=List.getElem?_of_mem (List.mem_filter.1 ho).1
     have hj':ops[j]? = some o:=by rw [← Array.getElem?_toList];exact hj
     exact ⟨j,o,ty,s,hj',by rw [hl,e],hb j (Array.getElem?_eq_some_iff.1 hj').1⟩
  ·rw [LoadsTo.other hnt h2 t q2 fun o ho ty s d hl e => ?_]
   ·exact ht1.rest t q1 q2
   ·have:=(hrd o (List.mem_filter.1 ho).1 ty s d hl).2.1
    omega
 have walk:∀ (fuel:Nat) (listed:Array Bool) (a':Act),listed.size=ops.size→Inv listed a'→listed.toList.count false=fuel→wpAnyIn (WF rd) 0 P .any ops Q fuel listed a' w1:=by
  have hready:∀ (listed:Array Bool),Region.ready .any ops listed=[]→listed.size=ops.size → ∀ i,i<ops.size→Been listed i:=fun listed hr hsz i=>by
   induction i using Nat.strongRecOn with
   | _ i ih=>
    intro hi
    by_cases hb:Been listed i
    ·exact hb
    ·have ho:ops[i]? = some ops[i]:=Array.getElem?_eq_getElem hi
     have hmem:i ∈ Region.ready .any ops listed:=mem_ready.2 ⟨by
      have hex:listed[i]? = some listed[i]:=Array.getElem?_eq_getElem (by omega)
      unfold Been at hb
      rw [Array.getD_eq_getD_getElem?,hex] at hb ⊢
      simpa using hb,_,ho,fun e he hbd=>ih e.on (hE i _ ho e (by simpa using he) hbd) (by have:=hE i _ ho e (by simpa using he) hbd;omega)⟩
     rw [hr] at hmem
     cases hmem
  intro fuel
  induction fuel with
  | zero=>
   intro listed a' hsz hI hc
   have hall':∀ i,i<ops.size→Been listed i:=fun i hi=>by
    have hlt:i<listed.size:=by rw [hsz];exact hi
    have hex:listed[i]? = some listed[i]:=Array.getElem?_eq_getElem hlt
    unfold Been
    rw [Array.getD_eq_getD_getElem?,hex,Option.getD_some]
    cases hv:listed[i] with
    | true=>rfl
    | false=>
     have:false ∈ listed.toList:=by rw [← hv];simp
     rw [List.count_eq_zero] at hc
     exact absurd this hc
   refine ⟨?_,fin listed a' hI hall'⟩
   refine List.eq_nil_iff_forall_not_mem.2 fun i hi => ?_
   obtain ⟨h1,o,ho,_⟩:=mem_ready.1 hi
   have hb:=hall' i (Array.getElem?_eq_some_iff.1 ho).1
   have hlt:i<listed.size:=by rw [hsz];exact (Array.getElem?_eq_some_iff.1 ho).1
   have hex:listed[i]? = some listed[i]:=Array.getElem?_eq_getElem hlt
   unfold Been at hb
   rw [Array.getD_eq_getD_getElem?,hex,Option.getD_some] at hb h1
   rw [hb] at h1
   cases h1
  | succ fuel ih=>
   intro listed a' hsz hI hc
   refine ⟨fun hr=>fin listed a' hI (hready listed hr hsz),fun i hi => ?_⟩
   obtain ⟨h1,o,ho,hr0⟩:=mem_ready.1 hi
   have hin:i<ops.size:=(Array.getElem?_eq_some_iff.1 ho).1
   have hil:i<listed.size:=by rw [hsz];exact hin
   have hex:listed[i]? = some listed[i]:=Array.getElem?_eq_getElem hil
   have hv:listed[i]=false:=by rw [Array.getD_eq_getD_getElem?,hex,Option.getD_some] at h1;exact h1
   have hnb:¬ Been listed i:=by unfold Been;rw [Array.getD_eq_getD_getElem?,hex,Option.getD_some,hv];simp
   have hc':(listed.setIfInBounds i true).toList.count false=fuel:=by
    have:=count_set (l:=listed.toList) (i:=i) (by simpa [hv] using hex)
    rw [Array.toList_setIfInBounds]
    omega
   have hsz':(listed.setIfInBounds i true).size=ops.size:=by simpa using hsz
   have hmem:o ∈ ops.toList:=by rw [← Array.getElem?_toList] at ho;exact List.mem_of_getElem? ho
   obtain ⟨g1,g2,g3,g4⟩:=hI
   have heval:∀ s:Nat,s ∉ loadDsts ops→a'.eval (.tmp s)=a.eval (.tmp s):=fun s hs=>by
    have:=g3 s fun ⟨j,q,ty,s',q1,q2,_⟩=>hs (hmemd q (by rw [← Array.getElem?_toList] at q1;exact List.mem_of_getElem? q1) ty s' s q2)
    simp [Act.eval,this]
   unfold wpOpIn
   simp only [ho]
   cases hlo:loadOf o with
   | some q=>
    obtain ⟨ty,s,d⟩:=q
    obtain ⟨hop,hd,hg⟩:=loadOf_spec hlo
    obtain ⟨_,hdn,cv,q1,q2,_⟩:=hrd o hmem ty s d hlo
    have hw:Region.wanted o (yielded ops a'.tmps)=true:=by simp [Region.wanted,hg]
    rw [if_pos hw]
    refine ⟨about_any P o a' w1 rd, ?_⟩
    rw [semAt_eq (by simp [hop])]
    have hex2:(execOp a'.eval o).run P w1 = .ok (.value cv) w1:=by
     simp only [execOp,hop,Sem.run_bind,heval s (hads' o hmem ty s d hlo).1,q1,Result.andThen_ok,Sem.run_pure]
    rw [hex2]
    show wpAnyIn (WF rd) 0 P .any ops Q fuel (listed.setIfInBounds i true) (a'.put o.dst cv) w1
    rw [hd]
    refine ih _ _ hsz' ⟨g1,by simpa [Act.put] using g2,fun t htd => ?_,fun j o' ty' s' d' r1 r2 r3 => ?_⟩ hc'
    ·have hne:d≠t:=fun e=>htd ⟨i,o,ty,s,ho,by rw [hlo,e],(been_set hil).2 (Or.inl rfl)⟩
     simp only [Act.put,Array.getElem?_setIfInBounds_ne hne]
     exact g3 t fun ⟨j,q,ty',s',r1,r2,r3⟩=>htd ⟨j,q,ty',s',r1,r2,(been_set hil).2 (Or.inr r3)⟩
    ·by_cases hdd:d=d'
     ·subst hdd
      refine ⟨cv,by simp [Act.put,g2,hdn], ?_⟩
      rcases (been_set hil).1 r3 with rfl | r3
      ·rw [ho] at r1;cases r1
       rw [hlo] at r2;cases r2
       exact q1
      ·obtain ⟨cv',r4,r5⟩:=g4 j o' ty' s' d r1 r2 r3
       have hji:j=i:=by
        have hnd':∀ (l:List Oper) (x y:Nat) (ox oy:Oper),(l.filterMap fun o=>(loadOf o).map (·.2.2)).Nodup→l[x]? = some ox→l[y]? = some oy→(loadOf ox).map (·.2.2)=some d→(loadOf oy).map (·.2.2)=some d→x=y:=by
         intro l
         induction l with
         | nil=>intro x y ox oy _ hx;simp at hx
         | cons z l ihl=>
          intro x y ox oy hnn hx hy hox hoy
          have htail:(l.filterMap fun o=>(loadOf o).map (·.2.2)).Nodup:=by
           rw [List.filterMap_cons] at hnn
           split at hnn
           ·exact hnn
           ·exact (List.nodup_cons.1 hnn).2
          cases x with
          | zero=>
           cases y with
           | zero=>rfl
           | succ y=>
            simp at hx hy
            subst hx
            rw [List.filterMap_cons,hox] at hnn
            exact absurd (List.mem_filterMap.2 ⟨oy,List.mem_of_getElem? hy,hoy⟩) (List.nodup_cons.1 hnn).1
          | succ x=>
           cases y with
           | zero=>
            simp at hx hy
            subst hy
            rw [List.filterMap_cons,hoy] at hnn
            exact absurd (List.mem_filterMap.2 ⟨ox,List.mem_of_getElem? hx,hox⟩) (List.nodup_cons.1 hnn).1
           | succ y=>
            simp at hx hy
            rw [ihl x y ox oy htail hx hy hox hoy]
        exact hnd' ops.toList j i o' o hnd (by simpa using r1) (by simpa using ho) (by rw [r2];rfl) (by rw [hlo];rfl)
       exact absurd (hji ▸ r3) hnb
     ·rcases (been_set hil).1 r3 with rfl | r3
      ·rw [ho] at r1;cases r1
       rw [hlo] at r2;cases r2
       exact absurd rfl hdd
      ·obtain ⟨cv',r4,r5⟩:=g4 j o' ty' s' d' r1 r2 r3
       exact ⟨cv',by simp only [Act.put,Array.getElem?_setIfInBounds_ne hdd];exact r4,r5⟩
   | none=>
    have hbk:backOf ops o=true:=by
     have:=hall o hmem
     unfold isLoad at this
     rw [hlo] at this
     simpa using this
    unfold backOf at hbk
    split at hbk
    ·rename_i ty s d hop hd hg
     rw [List.any_eq_true] at hbk
     obtain ⟨ed,he1,he2⟩:=hbk
     rw [Bool.and_eq_true] at he2
     obtain ⟨hbind,he3⟩:=he2
     split at he3
     ·rename_i o2 ho2
      have hl2:loadOf o2=some (ty,s,d):=by simpa using he3
      have hbn:Been listed ed.on:=hr0 ed (by simpa using he1) hbind
      obtain ⟨cv,r4,r5⟩:=g4 _ o2 ty s d ho2 hl2 hbn
      have hmem2:o2 ∈ ops.toList:=by rw [← Array.getElem?_toList] at ho2;exact List.mem_of_getElem? ho2
      obtain ⟨_,hdn,cv',q1,q2,q3⟩:=hrd o2 hmem2 ty s d hl2
      rw [r5] at q1
      cases q1
      have hw:Region.wanted o (yielded ops a'.tmps)=true:=by simp [Region.wanted,hg]
      rw [if_pos hw]
      refine ⟨about_any P o a' w1 rd, ?_⟩
      rw [semAt_eq (by simp [hop])]
      have hev:a'.eval (.tmp d)=cv:=by simp [Act.eval,r4]
      have hex2:(execOp a'.eval o).run P w1 = .ok .skip w1:=by
       simp only [execOp,hop,Sem.run_bind,heval s (hads' o2 hmem2 ty s d hl2).1,hev,q3,Result.andThen_ok,Sem.run_pure]
      rw [hex2]
      show wpAnyIn (WF rd) 0 P .any ops Q fuel (listed.setIfInBounds i true) (a'.put o.dst undef) w1
      rw [hd]
      refine ih _ _ hsz' ⟨g1,g2,fun t htd => ?_,fun j o' ty' s' d' r1 r2 r3 => ?_⟩ hc'
      ·exact g3 t fun ⟨j,q,ty',s',r1,r2,r3⟩=>htd ⟨j,q,ty',s',r1,r2,(been_set hil).2 (Or.inr r3)⟩
      ·rcases (been_set hil).1 r3 with rfl | r3
       ·rw [ho] at r1;cases r1
        rw [hlo] at r2;cases r2
       ·exact g4 j o' ty' s' d' r1 r2 r3
     ·cases he3
    ·cases hbk
 refine walk ops.size _ a (by simp) ⟨rfl,hsize,fun _ _=>rfl,fun j o ty s d _ _ hb => ?_⟩ (by simp [List.count_replicate])
 unfold Been at hb
 rw [Array.getD_eq_getD_getElem?,Array.getElem?_replicate] at hb
 split at hb <;> cases hb
end
end Go.Ev
end
section
namespace Go.Ev
open Go.RowKit
inductive Out where
 | normal
 | jump (n:Nat)
def Out.ex:Out→Exit
 | .normal => .normal
 | .jump 0 => .ret
 | .jump (n+1) => .exit n
def Marks (H:Heap) (rho':Nat→Option Nat) (H':Heap) (w':World) (ms:List Deferred):Prop:=
 ∃ bs:List (Nat × Nat),(bs.map (·.1)).Nodup∧ms=bs.map (fun p => { target := .collected p.2,args := #[] }) ∧ ∀ p ∈ bs,H.n≤p.1∧p.1<H'.n∧rho' p.1=some p.2∧H'.get p.1 = .mark∧w'.heap[p.2]? = some (.deferred (some []))
theorem Marks.nil {H H':Heap} {rho':Nat→Option Nat} {w':World}:Marks H rho' H' w' []:=⟨[],by simp,rfl,fun p h=>by cases h⟩
theorem Marks.trans {H H1 H2:Heap} {w1 w2:World} {r1 r2:Nat→Option Nat} {ms1 ms2:List Deferred} (h:Marks H r1 H1 w1 ms1) (k:Marks H1 r2 H2 w2 ms2) (x:Ext r1 H1 w1 r2 H2 w2) (hn:H.n≤H1.n):Marks H r2 H2 w2 (ms2 ++ ms1):=by
 obtain ⟨b1,n1,rfl,h1⟩:=h
 obtain ⟨b2,n2,rfl,h2⟩:=k
 refine ⟨b2 ++ b1, ?_,by simp,fun p hp => ?_⟩
 ·rw [List.map_append,List.nodup_append]
  refine ⟨n2,n1,fun a ha b hb e => ?_⟩
  obtain ⟨p,hp,rfl⟩:=List.mem_map.1 ha
  obtain ⟨q,hq,rfl⟩:=List.mem_map.1 hb
  have:=(h2 p hp).1
  have:=(h1 q hq).2.1
  omega
 ·rcases List.mem_append.1 hp with hp | hp
  ·obtain ⟨g1,g2,g3⟩:=h2 p hp
   exact ⟨Nat.le_trans hn g1,g2,g3⟩
  ·obtain ⟨g1,g2,g3,g4,g5⟩:=h1 p hp
   obtain ⟨m1,m2,m3⟩:=x.marks p.1 g4
   exact ⟨g1,Nat.lt_of_lt_of_le g2 x.n,m2.trans g3,m1,(m3 p.2 g3).trans g5⟩
def InL (rd:Option Nat) (w:World):Prop:=∀ l,rd=some l → ∃ r,w.heap[l]? = some (.loop r)
theorem InL.ext {rd:Option Nat} {w w':World} {rho rho':Nat→Option Nat} {H H':Heap} (h:InL rd w) (x:Ext rho H w rho' H' w'):InL rd w':=fun l e=>let ⟨r,h1⟩:=h l e;x.loops l r h1
def CS (P:Program) (nt:Nat) (inl:Bool) (c:Code) (e:Env) (H:Heap) (out:Out) (e':Env) (H':Heap):Prop:=
 ∀ (rd:Option Nat) (hrd:rd.isSome=inl) (base:Nat) (w0:World) (rho:Nat→Option Nat) (w:World) (a:Act),PR P base w0 rho H w→TR (mu rho H w) nt e a.tmps→InL rd w →
  ∀ (Q:Exit→Act→World→Prop),(∀ a' w' rho' ms,a'.defers=ms ++ a.defers→Marks H rho' H' w' ms→PR P base w0 rho' H' w'→TR (mu rho' H' w') nt e' a'.tmps→Ext rho H w rho' H' w'→Q out.ex a' w')→c.wpIn (WF rd) 0 P Q a w
theorem NS.cs {P:Program} {nt:Nat} {inl:Bool} {c:Code} {e e':Env} {H H':Heap} (h:NS P nt c e H e' H'):CS P nt inl c e H .normal e' H':=fun rd hrd base w0 rho w a hp ht hL Q hQ=>
 h rd base w0 rho w a hp ht Q fun a' w' rho' g1 g2 g3 g4=>hQ a' w' rho' [] g1 Marks.nil g2 g3 g4
theorem CS.here {P:Program} {nt:Nat} {inl:Bool} {c:Code} {e:Env} {H:Heap} {out:Out} (h:∀ {rd Q a w},Q out.ex a w→c.wpIn (WF rd) 0 P Q a w):CS P nt inl c e H out e H:=fun rd hrd base w0 rho w a hp ht hL Q hQ=>
 h (hQ a w rho [] rfl Marks.nil hp ht (Ext.refl hp.lt))
theorem then_normal {K:Act→World→Prop} {Q:Exit→Act→World→Prop} {a:Act} {w:World} (h:K a w):Exit.then K Q .normal a w:=h
theorem then_jump {K:Act→World→Prop} {Q:Exit→Act→World→Prop} {a:Act} {w:World} {n:Nat} (h:Q (Out.jump n).ex a w):Exit.then K Q (Out.jump n).ex a w:=by cases n <;> exact h
theorem CS.seq {P:Program} {nt:Nat} {inl:Bool} {x y:Code} {e e1 e2:Env} {H H1 H2:Heap} {out:Out} (h:CS P nt inl x e H .normal e1 H1) (k:CS P nt inl y e1 H1 out e2 H2):CS P nt inl (.seq x y) e H out e2 H2:=fun rd hrd base w0 rho w a hp ht hL Q hQ=>
 wpIn_seq (h rd hrd base w0 rho w a hp ht hL _ fun a1 w1 rho1 ms1 d1 m1 p1 t1 x1=>then_normal (k rd hrd base w0 rho1 w1 a1 p1 t1 (hL.ext x1) Q fun a2 w2 rho2 ms2 d2 m2 p2 t2 x2=>
  hQ a2 w2 rho2 (ms2 ++ ms1) (by rw [d2,d1,List.append_assoc]) (m1.trans m2 x2 x1.n) p2 t2 (Ext.trans hp.lt x1 x2)))
theorem CS.seq_jump {P:Program} {nt:Nat} {inl:Bool} {x y:Code} {e e1:Env} {H H1:Heap} {n:Nat} (h:CS P nt inl x e H (.jump n) e1 H1):CS P nt inl (.seq x y) e H (.jump n) e1 H1:=fun rd hrd base w0 rho w a hp ht hL Q hQ=>
 wpIn_seq (h rd hrd base w0 rho w a hp ht hL _ fun a1 w1 rho1 ms1 d1 m1 p1 t1 x1=>then_jump (hQ a1 w1 rho1 ms1 d1 m1 p1 t1 x1))
def LS (P:Program) (nt:Nat) (inl:Bool) (c:Code) (m:Nat) (e:Env) (H:Heap) (n:Nat) (e':Env) (H':Heap):Prop:=
 ∀ (rd:Option Nat) (hrd:rd.isSome=inl) (base:Nat) (w0:World) (rho:Nat→Option Nat) (w:World) (a:Act),PR P base w0 rho H w→TR (mu rho H w) nt e a.tmps→InL rd w →
  ∀ (Q:Exit→Act→World→Prop),(∀ a' w' rho' ms,a'.defers=ms ++ a.defers→Marks H rho' H' w' ms→PR P base w0 rho' H' w'→TR (mu rho' H' w') nt e' a'.tmps→Ext rho H w rho' H' w'→Q (Out.jump n).ex a' w')→Code.roundsIn (WF rd) 0 P c Q m a w
def kk (kn:KE) (kx:Nat→KE):Out→KE
 | .normal=>kn
 | .jump n=>kx n
section
variable {P:Program} {nt fid:Nat} {inl:Bool} {ph:Phi}
theorem loop_ok {c:Code} {f:Env→Heap→KE→(Nat→KE)→R} (hc:∀ e H kn kx,f e H kn kx=1 → ∃ out e' H',CS P nt inl c e H out e' H'∧kk kn kx out e' H'=1) (kx:Nat→KE):∀ (m:Nat) (e:Env) (H:Heap),
  (Nat.rec (motive:=fun _=>Env→Heap→R) (fun _ _=>no 3) (fun _ ih e H=>f e H ih kx) m:Env→Heap→R) e H=1 → ∃ n e' H',LS P nt inl c m e H n e' H'∧kx n e' H'=1
 | 0,e,H,h=>(no_ne h).elim
 | m+1,e,H,h=>by
  obtain ⟨out,e1,H1,h1,h2⟩:=hc e H _ kx h
  cases out with
  | jump n=>
   exact ⟨n,e1,H1,fun rd hrd base w0 rho w a hp ht hL Q hQ=>by
    rw [roundsIn_succ]
    exact h1 rd hrd base w0 rho w a hp ht hL _ fun a' w' rho' ms d1 m1 p1 t1 x1=>then_jump (hQ a' w' rho' ms d1 m1 p1 t1 x1),h2⟩
  | normal=>
   obtain ⟨n,e2,H2,h3,h4⟩:=loop_ok hc kx m e1 H1 h2
   exact ⟨n,e2,H2,fun rd hrd base w0 rho w a hp ht hL Q hQ=>by
    rw [roundsIn_succ]
    exact h1 rd hrd base w0 rho w a hp ht hL _ fun a1 w1 rho1 ms1 d1 m1 p1 t1 x1=>then_normal (h3 rd hrd base w0 rho1 w1 a1 p1 t1 (hL.ext x1) Q fun a2 w2 rho2 ms2 d2 m2 p2 t2 x2=>
     hQ a2 w2 rho2 (ms2 ++ ms1) (by rw [d2,d1,List.append_assoc]) (m1.trans m2 x2 x1.n) p2 t2 (Ext.trans hp.lt x1 x2)),h4⟩
def outOf:Nat→Out
 | 0 => .normal
 | m+1 => .jump m
theorem rangeF_ok (hph:PhiOK P ph) {g:Operand} {ps:Array Tmp} {as bo:Code} {x:Arg} {l:List Slot} (hx:compArg nt g=some x) (hl:compPs nt ps.toList=some l) {fuel:Nat} {e:Env} {H:Heap} {kn:KE} {kx:Nat→KE}
  (h:evC (.rangeF x l (.mk nt fid as) (.mk nt fid bo)) fuel ph e H kn kx=1):∃ out e' H',CS P nt false (.rangeFunc g ps as bo) e H out e' H'∧kk kn kx out e' H'=1:=by
 have h':getA x e (fun g=>vFunc 0 g fun f caps=>Nat.rec (motive:=fun _=>R) (hNew H .mark fun _ H=>hNew H (.loop 0 0 e l (.mk nt fid as) (.mk nt fid bo)) fun b H=>ph (.func f caps) [.yld b] H fun _ H=>
  hGet H b fun bl=>bLoop bl fun st j e' ps' as' bo'=>Nat.rec (motive:=fun _=>R) (hSet 0 H b (.loop 3 j e' ps' as' bo') fun H=>Nat.rec (motive:=fun _=>R) (kn e H) (fun m _=>kx m e H) j) (fun s _=>Nat.rec (motive:=fun _=>R) (no 10) (fun _ _=>hSet 0 H b (.loop 3 j e' ps' as' bo') fun H=>Nat.rec (motive:=fun _=>R) (kn e H) (fun m _=>kx m e H) j) s) st) (fun _ _=>no 14) (Nat.mod f 2))=1:=h
 rw [getA_eq] at h'
 obtain ⟨f0,caps,hf,h0⟩:=vFunc_ok h'
 have hf0:∃ f,f0=2 * f∧hNew H .mark (fun _ H=>hNew H (.loop 0 0 e l (.mk nt fid as) (.mk nt fid bo)) fun b H=>ph (.func f0 caps) [.yld b] H fun _ H=>
  hGet H b fun bl=>bLoop bl fun st j e' ps' as' bo'=>Nat.rec (motive:=fun _=>R) (hSet 0 H b (.loop 3 j e' ps' as' bo') fun H=>Nat.rec (motive:=fun _=>R) (kn e H) (fun m _=>kx m e H) j) (fun s _=>Nat.rec (motive:=fun _=>R) (no 10) (fun _ _=>hSet 0 H b (.loop 3 j e' ps' as' bo') fun H=>Nat.rec (motive:=fun _=>R) (kn e H) (fun m _=>kx m e H) j) s) st)=1:=by
  rcases (by omega:f0 % 2=0∨f0 % 2=1) with hm | hm
  ·rw [show Nat.mod f0 2=0 from hm] at h0
   exact ⟨f0 / 2,by omega,h0⟩
  ·rw [show Nat.mod f0 2=1 from hm] at h0
   exact (no_ne h0).elim
 obtain ⟨f,rfl,h1⟩:=hf0
 obtain ⟨H1,h2,n1⟩:=hNew_ok h1
 obtain ⟨H2,h3,n2⟩:=hNew_ok h2
 obtain ⟨v,H3,⟨_,h4⟩,h5⟩:=hph _ _ _ _ h3
 rw [hGet_eq] at h5
 obtain ⟨st,j,e',ps',as',bo',hb,h6⟩:=bLoop_ok h5
 have h7:st≠1∧hSet 0 H3 H1.n (.loop 3 j e' ps' as' bo') (fun H=>Nat.rec (motive:=fun _=>R) (kn e H) (fun m _=>kx m e H) j)=1:=by
  match st,h6 with
  | 0,h6=>exact ⟨by decide,h6⟩
  | 1,h6=>exact (no_ne h6).elim
  | s+2,h6=>exact ⟨by omega,h6⟩
 obtain ⟨H4,h8,s4⟩:=hSet_ok h7.2
 have hcall:=h4 f caps rfl
 refine ⟨outOf j,e,H4,fun rd hrd base w0 rho w a hp ht hL Q hQ => ?_,by cases j <;> exact h8⟩
 obtain rfl:rd=none:=by cases rd with
  | none=>rfl
  | some=>cases hrd
 refine wpIn_rangeFunc fun fn _ => ?_
 let rec0:Loop:={ state := .ready,pending:=none,fn,tmps:=a.tmps,params:=ps,assign:=as,body:=bo,defers:=w.heap.size }
 obtain ⟨p1,x1⟩:=hp.alloc (w':=w.alloc (.deferred (some []))) (o := .deferred (some [])) n1.n n1.wlo n1.get n1.oth trivial ⟨rfl,rfl,rfl⟩ (by simp) (World.alloc_heap_new w _) (fun j hj=>Below.heap_alloc _ _ _ hj) ⟨_,rfl⟩
 have hsz1:(w.alloc (.deferred (some []))).heap.size=w.heap.size+1:=by simp
 generalize hr1:(fun b=>if b=H.n then some w.heap.size else rho b)=rho1 at p1 x1
 have hr1b:rho1 H.n=some w.heap.size:=by rw [← hr1];simp
 obtain ⟨p2,x2⟩:=p1.alloc (w':=(w.alloc (.deferred (some []))).alloc (.loop rec0)) (o := .loop rec0) n2.n n2.wlo n2.get n2.oth trivial ⟨rfl,rfl,rfl⟩ (by simp) (World.alloc_heap_new _ _) (fun j hj=>Below.heap_alloc _ _ _ hj) ⟨rec0,nt,fid,rfl,rfl,rfl,ht.mono x1.mu,hl,rfl,rfl⟩
 generalize hr2:(fun b=>if b=H1.n then some (w.alloc (.deferred (some []))).heap.size else rho1 b)=rho2 at p2 x2
 have hr2b:rho2 H1.n=some (w.heap.size+1):=by rw [← hr2];simp
 have hr2a:rho2 H.n=some w.heap.size:=by
  rw [← hr2]
  have:H.n≠H1.n:=by have:=n1.n;omega
  simp [this,hr1b]
 have hev:=compArg_ok (mu:=mu rho H w) ht hx
 rw [hf] at hev
 simp only [VR] at hev
 obtain ⟨cs,hg,hcs⟩:=hev
 have hg:a.eval g = .func (.func f) #[] cs:=by simpa using hg
 have hyl:VR (mu rho2 H2 ((w.alloc (.deferred (some []))).alloc (.loop rec0))) (.yld H1.n) (.func (.yield (w.heap.size+1)) #[] #[]):=by
  simp only [VR]
  exact ⟨_,rfl,by rw [n2.n];omega,fun _=>hr2b⟩
 have hx12:=Ext.trans hp.lt x1 x2
 obtain ⟨hrun,hin⟩:=hcall base w0 rho2 _ (#[.func (.yield (w.heap.size+1)) #[] #[]] ++ cs) p2 (by
  rw [Array.toList_append]
  exact VRs.append (by simp only [VRs];exact ⟨_,_,rfl,hyl,rfl⟩) (VRs.mono hx12.mu _ _ hcs))
 refine ⟨w.heap.size+1,[{ target := .collected w.heap.size,args := #[] }],(w.alloc (.deferred (some []))).alloc (.loop rec0), { target := .fn (.func f) cs,args := #[.func (.yield (w.heap.size+1)) #[] #[]] },(w.alloc (.deferred (some []))).alloc (.loop rec0),f, #[.func (.yield (w.heap.size+1)) #[] #[]] ++ cs,(w.alloc (.deferred (some []))).alloc (.loop rec0),run_enterLoop_outer fn a.tmps ps as bo, ?_,fun _ _=>trivial, ?_,fun h=>absurd h (by simp), ?_⟩
 ·simp [resolve,Act.eval] at hg ⊢
  simp [hg,Deferred.ofValue]
 ·simp only [invoke]
  exact hrun
 ·refine (CallsIn.mono hin ?_:CallsIn (WF none) 0 P f _ _ _)
  rintro en w3 ⟨cv,rfl,rho3,v3,p3,x3⟩
  have hr3b:rho3 H1.n=some (w.heap.size+1):=x3.live _ _ hr2b (by rw [hb];trivial)
  obtain ⟨o3,g1,g2⟩:=p3.blk _ _ hr3b
  rw [hb] at g2
  obtain ⟨r,nt',fid',rfl,g3,g4,g5,g6,g7,g8⟩:=g2
  have hnb:r.state ≠ .busy:=fun e=>h7.1 (by rw [← g3,e];rfl)
  obtain ⟨p4,x4⟩:=p3.write (H':=H4) (w':=w3.putObj (w.heap.size+1) (.loop { r with state := .exhausted })) hr3b (by rw [hb];intro e;cases e) s4.n s4.wlo s4.wb s4.get s4.oth trivial ⟨rfl,rfl,rfl⟩ (by simp) (World.putObj_heap_same (Array.getElem?_eq_some_iff.1 g1).1) (fun j hj=>World.putObj_heap_other hj)
   ⟨{ r with state := .exhausted },nt',fid',rfl,rfl,g4,g5,g6,g7,g8⟩ (fun cs2 e2 fr2 h=>by rw [g1] at h;cases h) (fun _ _=>⟨_,rfl⟩)
  have hxx:=Ext.trans hp.lt hx12 (Ext.trans p2.lt x3 x4)
  have hmk:H2.get H.n = .mark:=by
   rw [n2.oth _ (by have:=n1.n;omega)]
   exact n1.get
  obtain ⟨m1,m2,m3⟩:=(Ext.trans p2.lt x3 x4).marks H.n hmk
  have hmw:((w.alloc (.deferred (some []))).alloc (.loop rec0)).heap[w.heap.size]? = some (.deferred (some [])):=by
   rw [Below.heap_alloc _ _ _ (by simp)]
   exact World.alloc_heap_new w _
  have hmarks:Marks H rho3 H4 (w3.putObj (w.heap.size+1) (.loop { r with state := .exhausted })) [{ target := .collected w.heap.size,args := #[] }]:=
   ⟨[(H.n,w.heap.size)],by simp,rfl,fun p hpm=>by
    obtain rfl:p=(H.n,w.heap.size):=by simpa using hpm
    refine ⟨Nat.le_refl _, ?_,m2.trans hr2a,m1,(m3 _ hr2a).trans hmw⟩
    have e1:=n1.n
    have e2:=n2.n
    have e3:=x3.n
    have e4:=x4.n
    show H.n<H4.n
    omega⟩
  have hq:=hQ { a with defers:=[{ target := .collected w.heap.size,args := #[] }] ++ a.defers } _ rho3 _ rfl hmarks p4 (TR.mono hxx.mu ht) hxx
  refine ⟨r.pending,_,run_endLoop g1 hnb, ?_⟩
  rw [g4] at hq ⊢
  clear h5 h6 h7 h8 s4 hb p4 x4 hxx hmarks hnb h' h h1 h2 h3 hQ m1 m2 m3
  rcases j with _ | _ | m
  ·exact hq
  ·exact wpIn_ret hq
  ·exact wpIn_exit hq
theorem rangeN_ok (hph:PhiOK P ph) {g:Operand} {ps:Array Tmp} {as bo:Code} {x:Arg} {l:List Slot} (hx:compArg nt g=some x) (hl:compPs nt ps.toList=some l) {fuel:Nat} {e:Env} {H:Heap} {kn:KE} {kx:Nat→KE}
  (h:evC (.rangeN x l (.mk nt fid as) (.mk nt fid bo)) fuel ph e H kn kx=1):∃ out e' H',CS P nt true (.rangeFunc g ps as bo) e H out e' H'∧kk kn kx out e' H'=1:=by
 have h':getA x e (fun g=>vFunc 0 g fun f caps=>Nat.rec (motive:=fun _=>R) (hNew H (.loop 0 0 e l (.mk nt fid as) (.mk nt fid bo)) fun b H=>ph (.func f caps) [.yld b] H fun _ H=>
  hGet H b fun bl=>bLoop bl fun st j e' ps' as' bo'=>Nat.rec (motive:=fun _=>R) (hSet 0 H b (.loop 3 j e' ps' as' bo') fun H=>Nat.rec (motive:=fun _=>R) (kn e H) (fun m _=>kx m e H) j) (fun s _=>Nat.rec (motive:=fun _=>R) (no 10) (fun _ _=>hSet 0 H b (.loop 3 j e' ps' as' bo') fun H=>Nat.rec (motive:=fun _=>R) (kn e H) (fun m _=>kx m e H) j) s) st) (fun _ _=>no 14) (Nat.mod f 2))=1:=h
 rw [getA_eq] at h'
 obtain ⟨f0,caps,hf,h0⟩:=vFunc_ok h'
 have hf0:∃ f,f0=2 * f∧hNew H (.loop 0 0 e l (.mk nt fid as) (.mk nt fid bo)) (fun b H=>ph (.func f0 caps) [.yld b] H fun _ H=>
  hGet H b fun bl=>bLoop bl fun st j e' ps' as' bo'=>Nat.rec (motive:=fun _=>R) (hSet 0 H b (.loop 3 j e' ps' as' bo') fun H=>Nat.rec (motive:=fun _=>R) (kn e H) (fun m _=>kx m e H) j) (fun s _=>Nat.rec (motive:=fun _=>R) (no 10) (fun _ _=>hSet 0 H b (.loop 3 j e' ps' as' bo') fun H=>Nat.rec (motive:=fun _=>R) (kn e H) (fun m _=>kx m e H) j) s) st)=1:=by
  rcases (by omega:f0 % 2=0∨f0 % 2=1) with hm | hm
  ·rw [show Nat.mod f0 2=0 from hm] at h0
   exact ⟨f0 / 2,by omega,h0⟩
  ·rw [show Nat.mod f0 2=1 from hm] at h0
   exact (no_ne h0).elim
 obtain ⟨f,rfl,h1⟩:=hf0
 obtain ⟨H2,h3,n2⟩:=hNew_ok h1
 obtain ⟨v,H3,⟨_,h4⟩,h5⟩:=hph _ _ _ _ h3
 rw [hGet_eq] at h5
 obtain ⟨st,j,e',ps',as',bo',hb,h6⟩:=bLoop_ok h5
 have h7:st≠1∧hSet 0 H3 H.n (.loop 3 j e' ps' as' bo') (fun H=>Nat.rec (motive:=fun _=>R) (kn e H) (fun m _=>kx m e H) j)=1:=by
  match st,h6 with
  | 0,h6=>exact ⟨by decide,h6⟩
  | 1,h6=>exact (no_ne h6).elim
  | s+2,h6=>exact ⟨by omega,h6⟩
 obtain ⟨H4,h8,s4⟩:=hSet_ok h7.2
 have hcall:=h4 f caps rfl
 refine ⟨outOf j,e,H4,fun rd hrd base w0 rho w a hp ht hL Q hQ => ?_,by cases j <;> exact h8⟩
 obtain ⟨l₀,rfl⟩:∃ l₀,rd=some l₀:=by cases rd with
  | none=>cases hrd
  | some l₀ => exact ⟨l₀,rfl⟩
 obtain ⟨r₀,hl₀⟩:=hL l₀ rfl
 refine wpIn_rangeFunc fun fn _ => ?_
 let rec0:Loop:={ state := .ready,pending:=none,fn,tmps:=a.tmps,params:=ps,assign:=as,body:=bo,defers:=r₀.defers }
 obtain ⟨p2,x2⟩:=hp.alloc (w':=w.alloc (.loop rec0)) (o := .loop rec0) n2.n n2.wlo n2.get n2.oth trivial ⟨rfl,rfl,rfl⟩ (by simp) (World.alloc_heap_new _ _) (fun j hj=>Below.heap_alloc _ _ _ hj) ⟨rec0,nt,fid,rfl,rfl,rfl,ht,hl,rfl,rfl⟩
 generalize hr2:(fun b=>if b=H.n then some w.heap.size else rho b)=rho2 at p2 x2
 have hr2b:rho2 H.n=some w.heap.size:=by rw [← hr2];simp
 have hev:=compArg_ok (mu:=mu rho H w) ht hx
 rw [hf] at hev
 simp only [VR] at hev
 obtain ⟨cs,hg,hcs⟩:=hev
 have hg:a.eval g = .func (.func f) #[] cs:=by simpa using hg
 have hyl:VR (mu rho2 H2 (w.alloc (.loop rec0))) (.yld H.n) (.func (.yield w.heap.size) #[] #[]):=by
  simp only [VR]
  exact ⟨_,rfl,by rw [n2.n];omega,fun _=>hr2b⟩
 obtain ⟨hrun,hin⟩:=hcall base w0 rho2 _ (#[.func (.yield w.heap.size) #[] #[]] ++ cs) p2 (by
  rw [Array.toList_append]
  exact VRs.append (by simp only [VRs];exact ⟨_,_,rfl,hyl,rfl⟩) (VRs.mono x2.mu _ _ hcs))
 refine ⟨w.heap.size,[],w.alloc (.loop rec0), { target := .fn (.func f) cs,args := #[.func (.yield w.heap.size) #[] #[]] },w.alloc (.loop rec0),f, #[.func (.yield w.heap.size) #[] #[]] ++ cs,w.alloc (.loop rec0),run_enterLoop_inner hl₀ fn a.tmps ps as bo, ?_,fun _ _=>trivial, ?_,fun h=>absurd h (by simp), ?_⟩
 ·simp [resolve,Act.eval] at hg ⊢
  simp [hg,Deferred.ofValue]
 ·simp only [invoke]
  exact hrun
 ·refine (CallsIn.mono hin ?_:CallsIn (WF none) 0 P f _ _ _)
  rintro en w3 ⟨cv,rfl,rho3,v3,p3,x3⟩
  have hr3b:rho3 H.n=some w.heap.size:=x3.live _ _ hr2b (by rw [hb];trivial)
  obtain ⟨o3,g1,g2⟩:=p3.blk _ _ hr3b
  rw [hb] at g2
  obtain ⟨r,nt',fid',rfl,g3,g4,g5,g6,g7,g8⟩:=g2
  have hnb:r.state ≠ .busy:=fun e=>h7.1 (by rw [← g3,e];rfl)
  obtain ⟨p4,x4⟩:=p3.write (H':=H4) (w':=w3.putObj w.heap.size (.loop { r with state := .exhausted })) hr3b (by rw [hb];intro e;cases e) s4.n s4.wlo s4.wb s4.get s4.oth trivial ⟨rfl,rfl,rfl⟩ (by simp) (World.putObj_heap_same (Array.getElem?_eq_some_iff.1 g1).1) (fun j hj=>World.putObj_heap_other hj)
   ⟨{ r with state := .exhausted },nt',fid',rfl,rfl,g4,g5,g6,g7,g8⟩ (fun cs2 e2 fr2 h=>by rw [g1] at h;cases h) (fun _ _=>⟨_,rfl⟩)
  have hxx:=Ext.trans hp.lt x2 (Ext.trans p2.lt x3 x4)
  have hq:=hQ a _ rho3 [] rfl Marks.nil p4 (TR.mono hxx.mu ht) hxx
  refine ⟨r.pending,_,run_endLoop g1 hnb, ?_⟩
  rw [g4] at hq ⊢
  clear h5 h6 h7 h8 s4 hb p4 x4 hxx hnb h' h h1 h3 hQ
  rcases j with _ | _ | m
  ·exact hq
  ·exact wpIn_ret hq
  ·exact wpIn_exit hq
theorem evC_ok (hm:P.follows .mixedOrders=true) (hph:PhiOK P ph) (fuel:Nat):∀ (c:Code) (e:Env) (H:Heap) (kn:KE) (kx:Nat→KE),evC (compC P nt fid inl c) fuel ph e H kn kx=1 → ∃ out e' H',CS P nt inl c e H out e' H'∧kk kn kx out e' H'=1:=by
 intro c
 induction c with
 | skip=>intro e H kn kx h;exact ⟨.normal,e,H,CS.here fun h=>wpIn_skip h,h⟩
 | exit id=>intro e H kn kx h;exact ⟨.jump (id+1),e,H,CS.here fun h=>wpIn_exit h,h⟩
 | ret=>intro e H kn kx h;exact ⟨.jump 0,e,H,CS.here fun h=>wpIn_ret h,h⟩
 | seq x y ihx ihy=>
  intro e H kn kx h
  obtain ⟨out,e1,H1,h1,h2⟩:=ihx e H (fun e H=>evC (compC P nt fid inl y) fuel ph e H kn kx) kx h
  cases out with
  | jump n=>exact ⟨.jump n,e1,H1,h1.seq_jump,h2⟩
  | normal=>
   obtain ⟨out,e2,H2,h3,h4⟩:=ihy e1 H1 kn kx h2
   exact ⟨out,e2,H2,h1.seq h3,h4⟩
 | cond x a b iha ihb=>
  intro e H kn kx h
  unfold compC at h
  split at h
  ·rename_i ar har
   have h':getA ar e (fun v=>vBool 0 v fun b'=>ifB b' (evC (compC P nt fid inl a) fuel ph e H kn kx) (evC (compC P nt fid inl b) fuel ph e H kn kx))=1:=h
   rw [getA_eq] at h'
   obtain ⟨t,ht,h1⟩:=vBool_ok h'
   have hev:∀ {m:M} {ac:Act},TR m nt e ac.tmps→ac.eval x = .bool t:=fun htr=>by
    have:=compArg_ok htr har
    rw [ht] at this
    simpa only [VR] using this
   cases t with
   | true=>
    obtain ⟨out,e1,H1,h2,h3⟩:=iha e H kn kx h1
    exact ⟨out,e1,H1,fun rd hrd base w0 rho w ac hp htr hL Q hQ=>wpIn_cond_true (hev htr) (h2 rd hrd base w0 rho w ac hp htr hL Q hQ),h3⟩
   | false=>
    obtain ⟨out,e1,H1,h2,h3⟩:=ihb e H kn kx h1
    exact ⟨out,e1,H1,fun rd hrd base w0 rho w ac hp htr hL Q hQ=>wpIn_cond_false (hev htr) (h2 rd hrd base w0 rho w ac hp htr hL Q hQ),h3⟩
  ·exact (no_ne h).elim
 | block id a iha=>
  intro e H kn kx h
  obtain ⟨out,e1,H1,h1,h2⟩:=iha e H kn (fun n e H=>ifB (Nat.beq n (Nat.succ id)) (kn e H) (kx n e H)) h
  cases out with
  | normal=>exact ⟨.normal,e1,H1,fun rd hrd base w0 rho w ac hp htr hL Q hQ=>wpIn_block (h1 rd hrd base w0 rho w ac hp htr hL _ hQ),h2⟩
  | jump n=>
   rcases ifB_or h2 with ⟨h3,h4⟩ | ⟨h3,h4⟩
   ·have:=beq_of h3
    subst this
    refine ⟨.normal,e1,H1,fun rd hrd base w0 rho w ac hp htr hL Q hQ=>wpIn_block (h1 rd hrd base w0 rho w ac hp htr hL _ fun a' w' rho' ms d1 m1 p1 t1 x1 => ?_),h4⟩
    show Exit.inBlock id Q (.exit id) a' w'
    simp only [Exit.inBlock,if_true]
    exact hQ a' w' rho' ms d1 m1 p1 t1 x1
   ·refine ⟨.jump n,e1,H1,fun rd hrd base w0 rho w ac hp htr hL Q hQ=>wpIn_block (h1 rd hrd base w0 rho w ac hp htr hL _ fun a' w' rho' ms d1 m1 p1 t1 x1 => ?_),h4⟩
    have hq:=hQ a' w' rho' ms d1 m1 p1 t1 x1
    cases n with
    | zero=>exact hq
    | succ n=>
     show Exit.inBlock id Q (.exit n) a' w'
     have hne:n≠id:=fun h=>by subst h;simp at h3
     simp only [Exit.inBlock,hne,if_false]
     exact hq
 | loop a iha=>
  intro e H kn kx h
  obtain ⟨n,e1,H1,h1,h2⟩:=loop_ok (f:=fun e H kn kx=>evC (compC P nt fid inl a) fuel ph e H kn kx) iha kx fuel e H h
  exact ⟨.jump n,e1,H1,fun rd hrd base w0 rho w ac hp htr hL Q hQ=>wpIn_loop_rounds fuel (h1 rd hrd base w0 rho w ac hp htr hL Q hQ),h2⟩
 | region id ops draw=>
  intro e H kn kx h
  cases draw with
  | false=>
   have h':evC (match compRegG P nt (fid * 100000+id * 100) ops [] [] #[] ops.toList 0 with | some l => .reg l | none => .bad) fuel ph e H kn kx=1:=h
   split at h'
   ·rename_i l hl
    obtain ⟨e1,H1,h1,h2⟩:=evReg_ok hph ops.toList 0 l e H kn hl h'
    exact ⟨.normal,e1,H1,NS.cs fun rd base w0 rho w a hp ht Q hQ=>wpIn_region_list (h1 rd base w0 rho w a hp ht Q hQ),h2⟩
   ·exact (no_ne h').elim
  | true=>
   have h0:evC (if backOK P ops=true then (match compRegG P nt (fid * 100000+id * 100) ops [] [] #[] (ops.toList.filter isLoad) 0 with | some l=>CodeE.reg l | none => .bad) else if (apartOK ops (Region.before ops) && edgesOK ops)=true then (if needF (ops.toList.map (compOp P nt)) (Region.before ops)=true then (match compFregG P nt (fid * 100000+id * 100) ops (ops.toList.map (compOp P nt)) (Region.before ops) ops.toList 0 with | some l=>CodeE.freg l | none => .bad) else match compRegG P nt (fid * 100000+id * 100) ops (ops.toList.map fun o=>pureOp (compOp P nt o)) (ops.toList.map fun o=>isAl (compOp P nt o)) (Region.before ops) ops.toList 0 with | some l=>CodeE.dreg l | none => .bad) else .bad) fuel ph e H kn kx=1:=h
   split at h0
   ·rename_i hbk
    split at h0
    ·rename_i l hl
     obtain ⟨e1,h1,h2⟩:=back_ok (bid:=id) hm hbk hl (show evReg ph l e H kn=1 from h0)
     exact ⟨.normal,e1,H,h1.cs,h2⟩
    ·exact (no_ne h0).elim
   have h':=h0
   split at h'
   ·rename_i hcd
    rw [Bool.and_eq_true] at hcd
    split at h'
    ·split at h'
     ·rename_i l hl
      cases H with
      | mk n wlo t=>
       obtain ⟨e1,H1,h1,h2⟩:=freg_ok (id:=id) (H := .mk n wlo t) hm hph hcd.1 hcd.2 hl (show evFreg ph n l e (.mk n wlo t) [] [] kn=1 from h')
       exact ⟨.normal,e1,H1,h1.cs,h2⟩
     ·exact (no_ne h').elim
    split at h'
    ·rename_i l hl
     obtain ⟨e1,H1,h1,h2⟩:=dreg_ok (id:=id) hm hph hcd.1 hcd.2 hl (show evDreg ph l e H kn=1 from h')
     exact ⟨.normal,e1,H1,h1.cs,h2⟩
    ·exact (no_ne h').elim
   ·exact (no_ne h').elim
 | rangeFunc g ps as bo iha ihb=>
  intro e H kn kx h
  cases inl with
  | true=>
   have h0:evC (match compArg nt g,compPs nt ps.toList with | some x,some l => .rangeN x l (.mk nt fid as) (.mk nt fid bo) | _,_ => .bad) fuel ph e H kn kx=1:=h
   split at h0
   ·rename_i x l hx hl
    exact rangeN_ok hph hx hl h0
   ·exact (no_ne h0).elim
  | false=>
   have h0:evC (match compArg nt g,compPs nt ps.toList with | some x,some l => .rangeF x l (.mk nt fid as) (.mk nt fid bo) | _,_ => .bad) fuel ph e H kn kx=1:=h
   split at h0
   ·rename_i x l hx hl
    exact rangeF_ok hph hx hl h0
   ·exact (no_ne h0).elim
 | _=>intro e H kn kx h;exact (no_ne h).elim
end
end Go.Ev
end
section
namespace Go.Ev
open Go.RowKit
theorem CallF.fs {P:Program} {f:Nat} {args caps:List V} {H H':Heap} {v:V} (h:CallF P f (args ++ caps) H v H'):FSq P (.func (2 * f) caps) args H v H':=by
 refine ⟨fun rd base w0 rho w cx cargs hp hx ha o a => ?_,fun f' caps' e=>by
  injection e with e1 e2
  have e1:2 * f=2 * (f':Nat):=e1
  obtain rfl:f=(f':Nat):=by omega
  obtain rfl:=e2
  exact h⟩
 simp only [VR] at hx
 obtain ⟨cs,rfl,hc⟩:=hx
 obtain ⟨h1,h2⟩:=h base w0 rho w (cargs ++ cs) hp (by simpa using ha.append hc)
 have he:(do let d ← Deferred.ofValue (.func (.func (2 * f / 2)) (if 2 * f % 2=0 then #[] else cs) (if 2 * f % 2=0 then cs else #[])) cargs;invoke d.target d.args:Sem Next).run P w=(callFunc f (cargs ++ cs)).run P w:=by simp [Deferred.ofValue,invoke]
 rw [he,h1]
 refine ⟨fun h=>absurd h (by simp), ?_⟩
 refine (CallsIn.mono h2 ?_:CallsIn (WF none) 0 P f (cargs ++ cs) w _)
 rintro en w' ⟨cv,rfl,hl⟩
 exact ⟨cv,rfl,hl⟩
theorem CallF.fsb {P:Program} {f:Nat} {args caps:List V} {H H':Heap} {v:V} (h:CallF P f (caps ++ args) H v H'):FSq P (.func (2 * f+1) caps) args H v H':=by
 refine ⟨fun rd base w0 rho w cx cargs hp hx ha o a => ?_,fun f' caps' e=>by
  injection e with e1 e2
  have e1:2 * f+1=2 * (f':Nat):=e1
  omega⟩
 simp only [VR] at hx
 obtain ⟨cs,rfl,hc⟩:=hx
 obtain ⟨h1,h2⟩:=h base w0 rho w (cs ++ cargs) hp (by simpa using hc.append ha)
 have h3:(2 * f+1) % 2=1:=by omega
 have h4:(2 * f+1) / 2=f:=by omega
 have he:(do let d ← Deferred.ofValue (.func (.func ((2 * f+1) / 2)) (if (2 * f+1) % 2=0 then #[] else cs) (if (2 * f+1) % 2=0 then cs else #[])) cargs;invoke d.target d.args:Sem Next).run P w=(callFunc f (cs ++ cargs)).run P w:=by
  rw [h3,h4]
  simp [Deferred.ofValue,invoke]
 rw [he,h1]
 refine ⟨fun h=>absurd h (by simp), ?_⟩
 refine (CallsIn.mono h2 ?_:CallsIn (WF none) 0 P f (cs ++ cargs) w _)
 rintro en w' ⟨cv,rfl,hl⟩
 exact ⟨cv,rfl,hl⟩
theorem p8_same {α : Type} (i:I8) (x : α):p8 i (.mk x x x x x x x x)=x:=by cases i <;> rfl
theorem pget_env0 (s:Slot):pget s env0 = .tup []:=by
 cases s with
 | mk a b c=>
  show p8 c (p8 b (p8 a (.mk u2 u2 u2 u2 u2 u2 u2 u2)))=_
  rw [p8_same]
  show p8 c (p8 b (.mk u1 u1 u1 u1 u1 u1 u1 u1))=_
  rw [p8_same]
  show p8 c (.mk u0 u0 u0 u0 u0 u0 u0 u0)=_
  rw [p8_same]
  rfl
theorem setPs_ok:∀ (n i:Nat) (args:List V) (e:Env) (k:Env→R),i+n≤512→setPs ((List.range' i n).map slotOf) args e k=1 → ∃ e',k e'=1∧args.length=n∧(∀ t,t<512→pget (slotOf t) e'=if i≤t then (args[t-i]?).getD (pget (slotOf t) e) else pget (slotOf t) e)
 | 0,i,[],e,k,_,h=>⟨e,h,rfl,fun t _=>by simp⟩
 | 0,i,_ :: _,e,k,_,h=>(no_ne h).elim
 | n+1,i,[],e,k,_,h=>(no_ne h).elim
 | n+1,i,v :: args,e,k,hi,h=>by
  have h':setS (slotOf i) v e (fun e'=>setPs ((List.range' (i+1) n).map slotOf) args e' k)=1:=h
  rw [setS_eq] at h'
  obtain ⟨e',h1,h2,h3⟩:=setPs_ok n (i+1) args _ k (by omega) h'
  refine ⟨e',h1,by simp [h2],fun t ht => ?_⟩
  rcases Nat.lt_trichotomy t i with hlt | heq | hgt
  ·have hne:slotOf t≠slotOf i:=fun e=>by have:=slotOf_inj (by omega) (by omega) e;omega
   have e1:pget (slotOf t) (pset (slotOf i) v e)=pget (slotOf t) e:=by rw [pget_pset,if_neg hne]
   rw [h3 t ht,e1,if_neg (show ¬ i+1≤t by omega),if_neg (show ¬ i≤t by omega)]
  ·subst heq
   rw [h3 t ht,if_neg (show ¬ t+1≤t by omega),if_pos (Nat.le_refl t),pget_pset,if_pos rfl]
   simp
  ·have hne:slotOf t≠slotOf i:=fun e=>by have:=slotOf_inj (by omega) (by omega) e;omega
   have e1:pget (slotOf t) (pset (slotOf i) v e)=pget (slotOf t) e:=by rw [pget_pset,if_neg hne]
   rw [h3 t ht,e1,if_pos (show i+1≤t by omega),if_pos (show i≤t by omega),show t-i=(t-(i+1))+1 by omega,List.getElem?_cons_succ]
section
variable {P:Program} {nt:Nat}
def resOne (tmps:Array Value):ResultVar→Sem Value
 | .tmp t=>pure (tmps.getD t undef)
 | .cell a t=>do loadVar t (← asAddr (tmps.getD a undef))
theorem results_eq (fn:Func) (tmps:Array Value):results fn tmps=(do let vs ← fn.results.mapM (resOne tmps);pure (if h:vs.size=1 then vs[0] else .tuple vs)):=by
 unfold results
 congr 1
def GetsR (P:Program) (nt:Nat) (e:Env) (H:Heap) (r:ResultVar) (v:V):Prop:=
 ∀ {base:Nat} {w0 w:World} {rho:Nat→Option Nat} {tmps:Array Value},PR P base w0 rho H w→TR (mu rho H w) nt e tmps → ∃ c,(resOne tmps r).run P w = .ok c w∧VR (mu rho H w) v c
theorem tr_at {m:M} {e:Env} {tmps:Array Value} (h:TR m nt e tmps) {t:Nat} (ht:t<nt):VR m (pget (slotOf t) e) (tmps.getD t undef):=by
 have hs:=h.size
 have hex:tmps[t]? = some tmps[t]:=Array.getElem?_eq_getElem (by omega)
 rw [Array.getD_eq_getD_getElem?,hex]
 exact h.get t _ hex
theorem getRs_ok:∀ (l:List ResultVar) (rs:List RV) (e:Env) (H:Heap) (k:List V→R),compRes P nt l=some rs→getRs rs e H k=1 →
  ∃ vs,k vs=1∧vs.length=l.length ∧ ∀ {base:Nat} {w0 w:World} {rho:Nat→Option Nat} {tmps:Array Value},PR P base w0 rho H w→TR (mu rho H w) nt e tmps → ∃ cs,(l.mapM (resOne tmps)).run P w = .ok cs w∧VRs (mu rho H w) vs cs
 | [],rs,e,H,k,hc,h=>by
  simp only [compRes,Option.some.injEq] at hc
  subst hc
  exact ⟨[],h,rfl,fun hp ht=>⟨[],rfl,by simp only [VRs]⟩⟩
 | r :: l,rs,e,H,k,hc,h=>by
  have key:∀ (q:RV) (qs:List RV),rs=q :: qs→compRes P nt l=some qs→(∀ f:V→R,getR q e H f=1 → ∃ v,f v=1∧GetsR P nt e H r v) → ∃ vs,k vs=1∧vs.length=(r :: l).length ∧ ∀ {base:Nat} {w0 w:World} {rho:Nat→Option Nat} {tmps:Array Value},PR P base w0 rho H w→TR (mu rho H w) nt e tmps → ∃ cs,((r :: l).mapM (resOne tmps)).run P w = .ok cs w∧VRs (mu rho H w) vs cs:=fun q qs hrs hqs hq=>by
   subst hrs
   have h':getR q e H (fun v=>getRs qs e H fun ws=>k (v :: ws))=1:=h
   obtain ⟨v,h1,h2⟩:=hq _ h'
   obtain ⟨vs,h3,h4,h5⟩:=getRs_ok l qs e H _ hqs h1
   refine ⟨v :: vs,h3,by simp [h4],fun hp ht => ?_⟩
   obtain ⟨c,g1,g2⟩:=h2 hp ht
   obtain ⟨cs,g3,g4⟩:=h5 hp ht
   exact ⟨c :: cs,by simp [List.mapM_cons,g1,g3],by simp only [VRs];exact ⟨c,cs,rfl,g2,g4⟩⟩
  cases r with
  | tmp t=>
   simp only [compRes] at hc
   split at hc
   ·rename_i qs hqs
    split at hc
    ·rename_i hlt
     cases hc
     refine key _ _ rfl hqs fun f hf => ?_
     have hf':getS (slotOf t) e f=1:=hf
     rw [getS_eq] at hf'
     exact ⟨_,hf',fun hp ht=>⟨_,rfl,tr_at ht hlt⟩⟩
    ·cases hc
   ·cases hc
  | cell a t=>
   simp only [compRes] at hc
   split at hc
   ·rename_i qs hqs hag
    split at hc
    ·rename_i hlt
     cases hc
     refine key _ _ rfl hqs fun f hf => ?_
     have hf':getS (slotOf a) e (fun v=>vPtr 0 v fun b o=>loadC 0 H b o f)=1:=hf
     rw [getS_eq] at hf'
     obtain ⟨b,off,hb,h1⟩:=vPtr_ok hf'
     obtain ⟨row,v,h2,h3,h4⟩:=loadC_ok h1
     refine ⟨v,h4,fun {base w0 w rho tmps} hp ht => ?_⟩
     have vx:=tr_at ht hlt
     rw [hb] at vx
     simp only [VR] at vx
     obtain ⟨c,hc,hm⟩:=vx
     obtain ⟨cv,g1,g2,_⟩:=hp.cell (hp.rho_of hm h2) h2 h3
     exact ⟨cv,by simp [resOne,hc,asAddr,loadVar,run_isAgg hag,g1],g2⟩
    ·cases hc
   ·rename_i qs n hqs hag hsz
    split at hc
    ·rename_i hlt
     cases hc
     refine key _ _ rfl hqs fun f hf => ?_
     have hf':getS (slotOf a) e (fun v=>vPtr 0 v fun b o=>loadN 0 H b o n fun l=>f (.agg l))=1:=hf
     rw [getS_eq] at hf'
     obtain ⟨b,off,hb,h1⟩:=vPtr_ok hf'
     obtain ⟨row,h2,h3,h4⟩:=loadN_ok h1
     refine ⟨_,h4,fun {base w0 w rho tmps} hp ht => ?_⟩
     have vx:=tr_at ht hlt
     rw [hb] at vx
     simp only [VR] at vx
     obtain ⟨c,hc,hm⟩:=vx
     obtain ⟨cs,g1,g2,g3⟩:=hp.cells (hp.rho_of hm h2) h2 h3
     exact ⟨.agg cs.toArray,by simp [resOne,hc,asAddr,loadVar,run_isAgg hag,run_sizeOf' hsz,g1],by simp only [VR];exact ⟨_,rfl,g2⟩⟩
    ·cases hc
   ·cases hc
end
theorem retV_ok {l:List V} {k:V→R} (h:retV l k=1):∃ v,k v=1 ∧ ∀ (m:M) (cs:List Value),VRs m l cs→VR m v (if h:cs.toArray.size=1 then cs.toArray[0] else .tuple cs.toArray):=by
 cases l with
 | nil=>
  refine ⟨_,h,fun m cs hv => ?_⟩
  simp only [VRs] at hv
  subst hv
  simp only [VR]
  exact ⟨#[],rfl,by simp only [VRs]⟩
 | cons v l=>
  cases l with
  | nil=>
   refine ⟨v,h,fun m cs hv => ?_⟩
   simp only [VRs] at hv
   obtain ⟨c,r,rfl,h1,rfl⟩:=hv
   exact h1
  | cons u l=>
   refine ⟨_,h,fun m cs hv => ?_⟩
   have:=hv.length
   simp only [List.length_cons] at this
   rw [dif_neg (by simp;omega)]
   simp only [VR]
   exact ⟨_,rfl,hv⟩
end Go.Ev
end
section
namespace Go.Ev
open Go.RowKit
section
variable {P:Program}
theorem run_callFunc {f:FuncId} {fn:Func} {c:Code} (hf:P.funcs[f]? = some fn) (hb:fn.body=some c) (hn:(fn.name == "runtime.NumGoroutine")=false) (args:Array Value) (w:World):(callFunc f args).run P w = .ok (.enter f args) w:=by
 have hn':fn.name ≠ "runtime.NumGoroutine":=by simpa using hn
 simp [callFunc,hf,hb,hn']
theorem leave_ok {fn:Func} {tmps:Array Value} {R:Ending→World→Prop} {base:Nat} {w0 w:World} {rho rho':Nat→Option Nat} {H H':Heap} {nt:Nat} {e:Env} (h0:∀ b c,rho b=some c→b<H.n):∀ {w':World},PR P base w0 rho' H' w'→TR (mu rho' H' w') nt e tmps→Ext rho H w rho' H' w' → ∀ (bs:List (Nat × Nat)),(∀ p ∈ bs,H.n≤p.1)→(bs.map (·.1)).Nodup→(∀ p ∈ bs,rho' p.1=some p.2∧H'.get p.1 = .mark∧w'.heap[p.2]? = some (.deferred (some []))) →
  (∀ w2,PR P base w0 rho' H' w2→TR (mu rho' H' w2) nt e tmps→Ext rho H w rho' H' w2 → ∃ v,(results fn tmps).run P w2 = .ok v w2∧R (.returned v) w2)→LeavesInM (WF none) 0 P fn tmps R (bs.map fun p => { target := .collected p.2,args := #[] }) .returning w'
 | w',hp,ht,hx,[],_,_,_,hR=>hR w' hp ht hx
 | w',hp,ht,hx,p :: bs,hn,hnd,hb,hR=>by
  obtain ⟨h1,h2,h3⟩:=hb p (List.mem_cons_self ..)
  have hlt:=(hp.dom _ _ h1).2.2.1
  have hnn:=hn p (List.mem_cons_self ..)
  have hot:∀ k,k≠p.2→(w'.putObj p.2 (.deferred none)).heap[k]? = w'.heap[k]?:=fun k hk=>World.putObj_heap_other hk
  have hm:(mu rho' H' w').le (mu rho' H' (w'.putObj p.2 (.deferred none))):=⟨fun _ _ h=>h,fun c z ⟨cs,e,fr,g1,g2⟩=>⟨cs,e,fr,(hot c fun e=>by subst e;rw [h3] at g1;cases g1).trans g1,g2⟩⟩
  have hp2:PR P base w0 rho' H' (w'.putObj p.2 (.deferred none)):=by
   refine ⟨below_of hp.below rfl rfl rfl (by simp) fun k hk=>hot k (by have:=(hp.dom _ _ h1).2.1;omega),by simp;exact hp.base_le,hp.wn,fun b c hr=>by simp;exact hp.dom b c hr,hp.inj,fun b c hr => ?_,hp.out,GQ_same hp.gl.1 fun c hc=>hot c fun e=>hp.gl.2.2 _ _ h1 (e ▸ hc),fun c hc=>by simp;exact hp.gl.2.1 c hc,hp.gl.2.2⟩
   by_cases hc:c=p.2
   ·subst hc
    obtain rfl:=hp.inj _ _ _ hr h1
    exact ⟨_,World.putObj_heap_same hlt,by rw [h2];exact ⟨_,rfl⟩⟩
   ·obtain ⟨o,g1,g2⟩:=hp.blk b c hr
    exact ⟨o,(hot c hc).trans g1,g2.mono hm⟩
  have hx2:Ext rho H w rho' H' (w'.putObj p.2 (.deferred none)):=by
   refine ⟨hx.n,hx.wlo,by simp;exact hx.size,hx.keep,hx.old,hx.live,hx.nores,hx.new,fun c hc hb => ?_,fun b hm => ?_,fun c cs e fr hc => ?_,fun c r hc => ?_⟩
   ·refine (hot c fun e => ?_).trans (hx.fr c hc hb)
    subst e
    rcases hx.new _ _ hnn h1 with h | ⟨b0,g1,g2⟩
    ·omega
    ·have:=hb b0 g1;omega
   ·obtain ⟨a1,a2,a3⟩:=hx.marks b hm
    refine ⟨a1,a2,fun c hc=>(hot c fun e => ?_).trans (a3 c hc)⟩
    subst e
    have:=hp.inj _ _ _ (a2.trans hc) h1
    subst this
    have:=h0 _ _ hc
    omega
   ·obtain ⟨cs',e',fr',g1,g2⟩:=hx.rows c cs e fr hc
    exact ⟨cs',e',fr',(hot c fun e=>by subst e;rw [h3] at g1;cases g1).trans g1,g2⟩
   ·obtain ⟨r',g1⟩:=hx.loops c r hc
    exact ⟨r',(hot c fun e=>by subst e;rw [h3] at g1;cases g1).trans g1⟩
  refine ⟨by simp,Or.inl ⟨p.2,_,rfl,run_takeDeferred h3, ?_⟩⟩
  rw [List.map_cons,List.nodup_cons] at hnd
  refine leave_ok h0 hp2 (ht.mono hm) hx2 bs (fun q hq=>hn q (List.mem_cons_of_mem _ hq)) hnd.2 (fun q hq => ?_) hR
  obtain ⟨g1,g2,g3⟩:=hb q (List.mem_cons_of_mem _ hq)
  refine ⟨g1,g2,(hot q.2 fun e => ?_).trans g3⟩
  have:=hp.inj _ _ _ (e ▸ g1) h1
  exact hnd.1 (List.mem_map.2 ⟨q,hq,this⟩)
theorem fn_ok {f:FuncId} {fn:Func} {fe:FnE} {fuel:Nat} {ph:Phi} {args:List V} {H:Heap} {k:K} (hm:P.follows .mixedOrders=true) (hph:PhiOK P ph) (hf:P.funcs[f]? = some fn) (hn:(fn.name == "runtime.NumGoroutine")=false) (hfe:compFn P f fn=some fe) (h:evFn fe fuel ph args H k=1) :
  ∃ v H',CallF P f args H v H'∧k v H'=1:=by
 unfold compFn at hfe
 split at hfe
 ·rename_i c hb
  split at hfe
  ·rename_i hcd
   rw [Bool.and_eq_true,decide_eq_true_eq,decide_eq_true_eq] at hcd
   split at hfe
   ·rename_i r hr
    cases hfe
    have h':setPs ((List.range (fn.params.size+fn.nfree)).map slotOf) args env0 (fun e=>evC (compC P fn.ntmps f false c) fuel ph e H (fun e H=>getRs r e H fun l=>retV l fun v=>k v H) fun n e H=>Nat.rec (motive:=fun _=>R) (getRs r e H fun l=>retV l fun v=>k v H) (fun _ _=>no 6) n)=1:=h
    rw [List.range_eq_range'] at h'
    obtain ⟨e,h1,h2,h3⟩:=setPs_ok _ 0 args env0 _ (by omega) h'
    obtain ⟨out,e1,H1,h4,h5⟩:=evC_ok hm hph fuel c e H _ _ h1
    have h6:getRs r e1 H1 (fun l=>retV l fun v=>k v H1)=1∧(out.ex = .normal∨out.ex = .ret):=by
     cases out with
     | normal=>exact ⟨h5,Or.inl rfl⟩
     | jump n=>
      cases n with
      | zero=>exact ⟨h5,Or.inr rfl⟩
      | succ n=>exact (no_ne h5).elim
    obtain ⟨vs,h7,h8,h9⟩:=getRs_ok (nt:=fn.ntmps) _ _ _ _ _ hr h6.1
    obtain ⟨v,h10,h11⟩:=retV_ok h7
    refine ⟨v,H1,fun base w0 rho w cargs hp ha=>⟨run_callFunc hf hb hn _ _, ?_⟩,h10⟩
    have hlen:=ha.length
    have hsz:cargs.size=fn.params.size+fn.nfree:=by rw [← Array.length_toList,hlen,h2]
    have htr:TR (mu rho H w) fn.ntmps e (cargs ++ Array.replicate (fn.ntmps-cargs.size) undef):=by
     refine ⟨by simp;omega,hcd.1,fun t u hu => ?_,fun t g1 g2 => ?_⟩
     ·have ht:t<fn.ntmps:=by
       have:=(Array.getElem?_eq_some_iff.1 hu).1
       simp at this;omega
      rw [h3 t (by omega),if_pos (Nat.zero_le _),Nat.sub_zero]
      by_cases htc:t<cargs.size
      ·rw [Array.getElem?_append_left htc] at hu
       have hta:t<args.length:=by omega
       have hex:args[t]? = some args[t]:=List.getElem?_eq_getElem hta
       obtain ⟨c',g3,g4⟩:=ha.get hex
       rw [Array.getElem?_toList,hu] at g3
       cases g3
       rw [hex]
       exact g4
      ·rw [Array.getElem?_append_right (by omega),Array.getElem?_replicate] at hu
       split at hu
       ·cases hu
        rw [List.getElem?_eq_none (by omega),Option.getD_none,pget_env0]
        exact vr_undef
       ·cases hu
     ·rw [h3 t g2,if_pos (Nat.zero_le _),Nat.sub_zero,List.getElem?_eq_none (by omega),Option.getD_none,pget_env0]
    refine callsIn_of_wp_marks (F:=WF none) (n:=0) hf hb trivial ?_
    refine h4 none rfl base w0 rho w _ hp htr (fun _ e=>by cases e) _ fun a' w' rho' ms d1 m1 p1 t1 x1 => ?_
    obtain ⟨bs,nd,hms,hbs⟩:=m1
    have hd:a'.defers=bs.map (fun p => { target := .collected p.2,args := #[] }):=by rw [d1,hms];simp
    have key:=leave_ok (fn:=fn) (tmps:=a'.tmps) (R:=fun en w' => ∃ cv,en = .returned cv∧Left P base w0 rho H w v H1 cv w') hp.lt p1 t1 x1 bs (fun p hp=>(hbs p hp).1) nd (fun p hp=>⟨(hbs p hp).2.2.1,(hbs p hp).2.2.2.1,(hbs p hp).2.2.2.2⟩) fun w2 p2 t2 x2=>by
     obtain ⟨cs,g1,g2⟩:=h9 p2 t2
     have hres:(results fn a'.tmps).run P w2 = .ok (if h:cs.toArray.size=1 then cs.toArray[0] else .tuple cs.toArray) w2:=by
      rw [results_eq,Array.mapM_eq_mapM_toList]
      simp [g1]
     exact ⟨_,hres,_,rfl,rho',h11 _ _ g2,p2,x2⟩
    have hpost:bodyPostM (WF none) 0 P fn (fun en w' => ∃ cv,en = .returned cv∧Left P base w0 rho H w v H1 cv w') .normal a' w':=by
     show LeavesInM (WF none) 0 P fn a'.tmps _ a'.defers .returning w'
     rw [hd]
     exact key
    rcases h6.2 with h | h <;> rw [h] <;> exact hpost
   ·cases hfe
  ·cases hfe
 ·cases hfe
def NatOK (P:Program) (f:FuncId) (g:List V→Heap→K→R):Prop:=∀ args H k,g args H k=1 → ∃ v H',CallF P f args H v H'∧k v H'=1
def TabOK (P:Program) (t:Nat→Option FnE):Prop:=∀ f fe,t f=some fe→(∃ fn,P.funcs[f]? = some fn∧(fn.name == "runtime.NumGoroutine")=false∧compFn P f fn=some fe) ∨ ∃ g,fe = .nat g∧NatOK P f g
theorem setRs_ok:∀ (sl:List Slot) (args:List V) (e:Env) (k:Env→R),setPs sl args e k=1 →
  args.length=sl.length ∧ ∃ e',k e'=1 ∧ ∀ (m:M) (nt:Nat) (ps:List Tmp) (cargs:List Value) (tmps:Array Value),compPs nt ps=some sl→TR m nt e tmps→VRs m args cargs→TR m nt e' ((ps.zip cargs).foldl (fun tmps (q:Tmp × Value)=>tmps.setIfInBounds q.1 q.2) tmps)
 | [],args,e,k,h=>by
  cases args with
  | nil=>exact ⟨rfl,e,h,fun m nt ps cargs tmps hc ht hv=>by
    simp only [VRs] at hv
    subst hv
    simpa using ht⟩
  | cons=>exact (no_ne h).elim
 | s :: sl,args,e,k,h=>by
  cases args with
  | nil=>exact (no_ne h).elim
  | cons v args=>
   have h':setS s v e (fun e'=>setPs sl args e' k)=1:=h
   rw [setS_eq] at h'
   obtain ⟨h1,e',h2,h3⟩:=setRs_ok sl args _ k h'
   refine ⟨by simp [h1],e',h2,fun m nt ps cargs tmps hc ht hv => ?_⟩
   cases ps with
   | nil=>simp [compPs] at hc
   | cons p ps=>
    simp only [compPs] at hc
    split at hc
    ·rename_i r hr
     split at hc
     ·rename_i hp
      cases hc
      simp only [VRs] at hv
      obtain ⟨c,cr,rfl,hv1,hv2⟩:=hv
      simpa using h3 m nt ps cr _ hr (ht.put hp hv1) hv2
     ·cases hc
    ·cases hc
def jumpOf:Out→Option Code
 | .normal=>none
 | .jump 0=>some .ret
 | .jump (n+1)=>some (.exit n)
theorem compPs_length {nt:Nat}:∀ {l:List Tmp} {r:List Slot},compPs nt l=some r→r.length=l.length
 | [],r,h=>by simp only [compPs,Option.some.injEq] at h;subst h;rfl
 | t :: l,r,h=>by
  simp only [compPs] at h
  split at h
  ·rename_i q hq
   split at h
   ·cases h;simp [compPs_length hq]
   ·cases h
  ·cases h
theorem evY_ok {ph:Phi} (hm:P.follows .mixedOrders=true) (hph:PhiOK P ph) {fuel b:Nat} {args:List V} {H:Heap} {k:K} (h:evY (compRC P) fuel ph b args H k=1):∃ v H',FSq P (.yld b) args H v H'∧k v H'=1:=by
 unfold evY at h
 rw [hGet_eq] at h
 obtain ⟨st,j,e,ps,as,bo,hb,h1⟩:=bLoop_ok h
 match st,hb,h1 with
 | s+1,hb,h1=>exact (no_ne h1).elim
 | 0,hb,h1=>
  obtain ⟨nt,fid,c1⟩:=as
  obtain ⟨nt2,fid2,c2⟩:=bo
  have h2:setPs ps args e (fun e1=>evC (compC P nt fid true c1) fuel ph e1 H (fun e2 H=>hGet H b fun bl=>bLoop bl fun st1 j1 e1 ps1 as1 bo1=>Nat.rec (motive:=fun _=>R) (hSet 0 H b (.loop 1 j1 e1 ps1 as1 bo1) fun H=>evC (compC P nt2 fid2 true c2) fuel ph e2 H
   (fun _ H=>hGet H b fun bl=>bLoop bl fun _ _ e' ps' as' bo'=>hSet 0 H b (.loop 0 0 e' ps' as' bo') fun H=>k (.bool true) H)
   fun n _ H=>hGet H b fun bl=>bLoop bl fun _ _ e' ps' as' bo'=>hSet 0 H b (.loop 2 (Nat.succ n) e' ps' as' bo') fun H=>k (.bool false) H) (fun _ _=>no 13) st1) (fun _ _ _=>no 11))=1:=h1
  obtain ⟨hlen,e1,h3,hT⟩:=setRs_ok _ _ _ _ h2
  obtain ⟨out,e2,H1,cs1,h4⟩:=evC_ok hm hph fuel c1 e1 H _ _ h3
  cases out with
  | jump n=>exact (no_ne h4).elim
  | normal=>
   have h4':hGet H1 b (fun bl=>bLoop bl fun st1 j1 e1 ps1 as1 bo1=>Nat.rec (motive:=fun _=>R) (hSet 0 H1 b (.loop 1 j1 e1 ps1 as1 bo1) fun H=>evC (compC P nt2 fid2 true c2) fuel ph e2 H
    (fun _ H=>hGet H b fun bl=>bLoop bl fun _ _ e' ps' as' bo'=>hSet 0 H b (.loop 0 0 e' ps' as' bo') fun H=>k (.bool true) H)
    fun n _ H=>hGet H b fun bl=>bLoop bl fun _ _ e' ps' as' bo'=>hSet 0 H b (.loop 2 (Nat.succ n) e' ps' as' bo') fun H=>k (.bool false) H) (fun _ _=>no 13) st1)=1:=h4
   rw [hGet_eq] at h4'
   obtain ⟨st1,j1,ea,psa,asa,boa,hb1,h5⟩:=bLoop_ok h4'
   match st1,hb1,h5 with
   | s+1,hb1,h5=>exact (no_ne h5).elim
   | 0,hb1,h5=>
    obtain ⟨H2,h6,s2⟩:=hSet_ok (show hSet 0 H1 b (.loop 1 j1 ea psa asa boa) _=1 from h5)
    obtain ⟨out3,e3,H3,cs2,h7⟩:=evC_ok hm hph fuel c2 e2 H2 _ _ h6
    have fin:∃ (bv:Bool) (st4 jmp:Nat) (H4:Heap) (st3 j3:Nat) (eb:Env) (psb:List Slot) (asb bob:RC),H3.get b = .loop st3 j3 eb psb asb bob∧SetTo H3 b (.loop st4 jmp eb psb asb bob) H4∧k (.bool bv) H4=1∧pend jmp=jumpOf out3∧bv=(jumpOf out3).isNone∧st4=stOf (if (jumpOf out3).isNone then .ready else .done):=by
     cases out3 with
     | normal=>
      have h8:hGet H3 b (fun bl=>bLoop bl fun _ _ e' ps' as' bo'=>hSet 0 H3 b (.loop 0 0 e' ps' as' bo') fun H=>k (.bool true) H)=1:=h7
      rw [hGet_eq] at h8
      obtain ⟨st3,j3,eb,psb,asb,bob,hb3,h9⟩:=bLoop_ok h8
      obtain ⟨H4,h10,s4⟩:=hSet_ok h9
      exact ⟨true,0,0,H4,st3,j3,eb,psb,asb,bob,hb3,s4,h10,rfl,rfl,rfl⟩
     | jump n=>
      have h8:hGet H3 b (fun bl=>bLoop bl fun _ _ e' ps' as' bo'=>hSet 0 H3 b (.loop 2 (Nat.succ n) e' ps' as' bo') fun H=>k (.bool false) H)=1:=h7
      rw [hGet_eq] at h8
      obtain ⟨st3,j3,eb,psb,asb,bob,hb3,h9⟩:=bLoop_ok h8
      obtain ⟨H4,h10,s4⟩:=hSet_ok h9
      exact ⟨false,2,n+1,H4,st3,j3,eb,psb,asb,bob,hb3,s4,h10,by cases n <;> rfl,by cases n <;> rfl,by cases n <;> rfl⟩
    obtain ⟨bv,st4,jmp,H4,st3,j3,eb,psb,asb,bob,hb3,s4,hk,hpend,hbv,hst4⟩:=fin
    refine ⟨.bool bv,H4,⟨fun rd base w0 rho w cx cargs hp hx ha o a => ?_,fun f caps e=>by cases e⟩,hk⟩
    simp only [VR] at hx
    obtain ⟨c,rfl,hmu⟩:=hx
    have hr:rho b=some c:=hmu.2 (by rw [hb];trivial)
    obtain ⟨o1,g1,g2⟩:=hp.blk _ _ hr
    rw [hb] at g2
    obtain ⟨r,nt',fid',rfl,g3,g4,g5,g6,g7,g8⟩:=g2
    have hready:∀ {x:LoopState},stOf x=0→x = .ready:=fun {x} hx=>by cases x <;> simp [stOf] at hx;rfl
    simp only [RC.mk.injEq] at g7 g8
    obtain ⟨rfl,rfl,g7⟩:=g7
    obtain ⟨rfl,rfl,g8⟩:=g8
    have hsz:cargs.size=r.params.size:=by
     rw [← Array.length_toList,ha.length,hlen,compPs_length g6,Array.length_toList]
    have he:(do let d ← Deferred.ofValue (.func (.yield c) #[] #[]) cargs;invoke d.target d.args:Sem Next).run P w = .ok (.round c r.fn ((r.params.zip cargs).foldl (fun tmps (t,a)=>tmps.setIfInBounds t a) r.tmps) r.assign r.body) w:=by
     have:=run_yield (P:=P) g1 hsz
     simp [Deferred.ofValue,invoke,this]
    rw [he,g7,g8]
    have htr:TR (mu rho H w) nt' e1 ((r.params.zip cargs).foldl (fun tmps (t,a)=>tmps.setIfInBounds t a) r.tmps):=by
     have:=hT (mu rho H w) nt' r.params.toList cargs.toList r.tmps g6 g5 ha
     rw [← Array.foldl_toList,Array.toList_zip]
     exact this
    refine ⟨fun h=>absurd h (by simp), ?_⟩
    refine (roundIn_of_wpIn (F:=WF rd) (n:=0) trivial ?_:RoundIn (WF rd) 0 P _ _ _ _ _ _ _)
    refine (cs1 (some c) rfl base w0 rho w { tmps:=_,defers:=[] } hp htr (fun l e=>by cases e;exact ⟨r,g1⟩) _ fun a1 w1 rho1 ms1 d1 m1 p1 t1 x1 => ?_:Code.wpIn (WF (some c)) 0 P _ _ _ _)
    refine then_normal ?_
    have hr1:rho1 b=some c:=x1.live b c hr (by rw [hb1];trivial)
    obtain ⟨o2,q1,q2⟩:=p1.blk _ _ hr1
    rw [hb1] at q2
    obtain ⟨r1,nt1,fid1,rfl,q3,q4,q5,q6,q7,q8⟩:=q2
    refine ⟨_,run_beginRound q1 (hready q3), ?_⟩
    obtain ⟨p2,x2⟩:=p1.write (H':=H2) (w':=w1.putObj c (.loop { r1 with state := .busy })) hr1 (by rw [hb1];intro e;cases e) s2.n s2.wlo s2.wb s2.get s2.oth trivial ⟨rfl,rfl,rfl⟩ (by simp) (World.putObj_heap_same (Array.getElem?_eq_some_iff.1 q1).1) (fun j hj=>World.putObj_heap_other hj)
     ⟨{ r1 with state := .busy },nt1,fid1,rfl,rfl,q4,q5,q6,q7,q8⟩ (fun cs2 e2 fr2 h=>by rw [q1] at h;cases h) (fun _ _=>⟨_,rfl⟩)
    refine (cs2 (some c) rfl base w0 rho1 _ a1 p2 (t1.mono x2.mu) (fun l e=>by cases e;exact ⟨_,World.putObj_heap_same (Array.getElem?_eq_some_iff.1 q1).1⟩) _ fun a3 w3 rho3 ms3 d3 m3 p3 t3 x3 => ?_:Code.wpIn (WF (some c)) 0 P _ _ _ _)
    have hr3:rho3 b=some c:=x3.live b c hr1 (by rw [hb3];trivial)
    obtain ⟨o3,u1,u2⟩:=p3.blk _ _ hr3
    rw [hb3] at u2
    obtain ⟨r3,nt3,fid3,rfl,u3,u4,u5,u6,u7,u8⟩:=u2
    obtain ⟨p4,x4⟩:=p3.write (H':=H4) (w':=w3.putObj c (.loop { r3 with state:=if (jumpOf out3).isNone then .ready else .done,pending:=jumpOf out3 })) hr3 (by rw [hb3];intro e;cases e) s4.n s4.wlo s4.wb s4.get s4.oth trivial ⟨rfl,rfl,rfl⟩ (by simp) (World.putObj_heap_same (Array.getElem?_eq_some_iff.1 u1).1) (fun j hj=>World.putObj_heap_other hj)
     ⟨{ r3 with state:=if (jumpOf out3).isNone then .ready else .done,pending:=jumpOf out3 },nt3,fid3,rfl,hst4.symm,hpend.symm,u5,u6,u7,u8⟩ (fun cs2 e2 fr2 h=>by rw [u1] at h;cases h) (fun _ _=>⟨_,rfl⟩)
    have hR:∃ cv,a.put o.dst (.bool (jumpOf out3).isNone)=a.put o.dst cv∧Left P base w0 rho H w (.bool bv) H4 cv (w3.putObj c (.loop { r3 with state:=if (jumpOf out3).isNone then .ready else .done,pending:=jumpOf out3 })):=
     ⟨_,rfl,rho3,by simp only [VR];rw [hbv],p4,Ext.trans hp.lt x1 (Ext.trans p1.lt x2 (Ext.trans p2.lt x3 x4))⟩
    have hend:=run_endRound (P:=P) (jumpOf out3) u1
    cases out3 with
    | normal=>exact ⟨_,_,hend,hR⟩
    | jump n=>cases n <;> exact ⟨_,_,hend,hR⟩
theorem evP_ok (hm:P.follows .mixedOrders=true) {t:Nat→Option FnE} (ht:TabOK P t) (fuel:Nat):∀ depth,PhiOK P (evP (compRC P) t fuel depth)
 | 0=>fun x args H k h=>(no_ne h).elim
 | d+1=>fun x args H k h=>by
  have ih:=evP_ok hm ht fuel d
  cases x <;> first | exact (no_ne h).elim | skip
  rotate_left
  ·exact evY_ok hm ih h
  rename_i f caps
  have key:∀ g l,evT t fuel (evP (compRC P) t fuel d) g l H k=1 → ∃ v H',CallF P g l H v H'∧k v H'=1:=fun g l h=>by
   unfold evT at h
   rw [forceN_eq] at h
   cases htf:t g with
   | none=>rw [htf] at h;exact (no_ne h).elim
   | some fe=>
    rw [htf] at h
    have h2:evFn fe fuel (evP (compRC P) t fuel d) l H k=1:=h
    rcases ht g fe htf with ⟨fn,h3,h4,h5⟩ | ⟨q,rfl,h3⟩
    ·exact fn_ok hm ih h3 h4 h5 h2
    ·exact h3 _ _ _ (show q l H k=1 from h2)
  have h':Nat.rec (motive:=fun _=>R) (appL args caps fun args=>evT t fuel (evP (compRC P) t fuel d) (Nat.div f 2) args H k) (fun _ _=>appL caps args fun args=>evT t fuel (evP (compRC P) t fuel d) (Nat.div f 2) args H k) (Nat.mod f 2)=1:=h
  rcases (by omega:f % 2=0∨f % 2=1) with hf | hf
  ·rw [show Nat.mod f 2=0 from hf] at h'
   have h'':appL args caps (fun args=>evT t fuel (evP (compRC P) t fuel d) (Nat.div f 2) args H k)=1:=h'
   rw [appL_eq] at h''
   obtain ⟨v,H',h1,h2⟩:=key _ _ h''
   have hq:f=2 * (f / 2):=by omega
   refine ⟨v,H', ?_,h2⟩
   rw [hq]
   exact CallF.fs h1
  ·rw [show Nat.mod f 2=1 from hf] at h'
   have h'':appL caps args (fun args=>evT t fuel (evP (compRC P) t fuel d) (Nat.div f 2) args H k)=1:=h'
   rw [appL_eq] at h''
   obtain ⟨v,H',h1,h2⟩:=key _ _ h''
   have hq:f=2 * (f / 2)+1:=by omega
   refine ⟨v,H', ?_,h2⟩
   rw [hq]
   exact CallF.fsb h1
theorem PR.empty (w:World) (hg:GQ w ∧ ∀ c,GB c→c<w.heap.size):PR P w.heap.size w (fun _=>none) H0 w where
 below:=Below.refl _ _
 base_le:=Nat.le_refl _
 wn:=Nat.le_refl _
 dom b c h:=by cases h
 inj b b' c h:=by cases h
 blk b c h:=by cases h
 out b _:=rfl
 gl:=⟨hg.1,hg.2,fun b c h=>by cases h⟩
noncomputable def isTrue (v:V) (_:Heap):R:=vBool 0 v fun b=>ifB b 1 (no 0)
theorem isTrue_ok {v:V} {H:Heap} (h:isTrue v H=1):v = .bool true:=by
 obtain ⟨b,rfl,h1⟩:=vBool_ok h
 obtain ⟨h2,_⟩:=ifB_no h1
 rw [h2]
theorem known (hm:P.follows .mixedOrders=true) {t:Nat→Option FnE} (ht:TabOK P t) {fuel depth:Nat} {f:FuncId} {fn:Func} {c:Code} (hf:P.funcs[f]? = some fn) (hb:fn.body=some c) (hn:(fn.name == "runtime.NumGoroutine")=false) (h:evP (compRC P) t fuel depth (.func (2 * f) []) [] H0 isTrue=1) (w:World) (hg:GQ w ∧ ∀ c,GB c→c<w.heap.size:=by exact Gno) :
  Calls P f #[] w fun e w'=>e = .returned (.bool true)∧Below w.heap.size w w':=by
 obtain ⟨v,H',h1,h2⟩:=evP_ok hm ht fuel depth _ _ _ _ h
 have:=isTrue_ok h2
 subst this
 have h3:=h1.1 none w.heap.size w (fun _=>none) w (.func (.func f) #[] #[]) #[] (PR.empty w hg) (by simp only [VR];exact ⟨#[],by simp,by simp only [VRs]⟩) (by simp only [VRs]) { (default:Oper) with dst:=some 0 } { tmps := #[undef],defers:=[] }
 have he:(do let d ← Deferred.ofValue (.func (.func f) #[] #[]) #[];invoke d.target d.args:Sem Next).run P w = .ok (.enter f #[]) w:=by
  have:=run_callFunc hf hb hn #[] w
  simp [Deferred.ofValue,invoke,this]
 rw [he] at h3
 obtain ⟨_,h4⟩:=h3
 refine CallsIn.calls (h4.mono fun e w' he => ?_) fun k=>by simp [Fence.room]
 cases e with
 | returned u=>
  obtain ⟨cv,h5,rho',h6,h7,_⟩:=he
  have h8:u=cv:=by simpa [Act.put] using h5
  subst h8
  simp only [VR] at h6
  exact ⟨by rw [h6],h7.below⟩
 | panicked ch=>exact he.elim
 | outgrown=>obtain ⟨_,_,h⟩:=he;exact h.elim
end
end Go.Ev
end
section
namespace Go.Ev
open Go.RowKit
section
variable {P:Program} {base:Nat} {w0 w w':World} {rho:Nat→Option Nat} {H:Heap}
theorem PR.called (h:PR P base w0 rho H w) (hb:Below w.heap.size w w'):PR P base w0 rho H w'∧Ext rho H w rho H w':=by
 have hE:Ext rho H w rho H w':=⟨Nat.le_refl _,Nat.le_refl _,hb.size,fun _ _ _=>⟨rfl,rfl⟩,fun _ _ _ h=>h,fun _ _ h _=>h,fun _ _ h=>h,fun b c hb h1=>absurd (h.lt b c h1) (by omega),fun c hc _=>hb.block c hc,fun b h1=>⟨h1,rfl,fun c hc=>hb.block c (h.dom b c hc).2.2.1⟩,fun c cs e fr h1=>⟨cs,e,fr,(hb.block c (Array.getElem?_eq_some_iff.1 h1).1).trans h1,rfl⟩,fun c r h1=>⟨r,(hb.block c (Array.getElem?_eq_some_iff.1 h1).1).trans h1⟩⟩
 refine ⟨⟨h.below.trans (hb.mono h.base_le),Nat.le_trans h.base_le hb.size,h.wn,fun b c hr => ?_,h.inj,fun b c hr => ?_,h.out,h.gl.step hE⟩,hE⟩
 ·obtain ⟨h1,h2,h3,h4⟩:=h.dom b c hr
  exact ⟨h1,h2,Nat.lt_of_lt_of_le h3 hb.size,h4⟩
 ·obtain ⟨o,h1,h2⟩:=h.blk b c hr
  exact ⟨o,(hb.block c (h.dom b c hr).2.2.1).trans h1,h2.mono hE.mu⟩
theorem CallF.of_calls {f:FuncId} {fn:Func} {c:Code} {args:List V} {v:V} (hf:P.funcs[f]? = some fn) (hb:fn.body=some c) (hn:(fn.name == "runtime.NumGoroutine")=false)
  (h:∀ (base:Nat) (w0:World) (rho:Nat→Option Nat) (w:World) (cargs:Array Value),PR P base w0 rho H w→VRs (mu rho H w) args cargs.toList → ∃ cv,VR (mu rho H w) v cv∧Calls P f cargs w fun e w'=>e = .returned cv∧Below w.heap.size w w') :
  CallF P f args H v H:=fun base w0 rho w cargs hp ha=>by
 obtain ⟨cv,h1,h2⟩:=h base w0 rho w cargs hp ha
 refine ⟨run_callFunc hf hb hn _ _, ?_⟩
 have h3:CallsIn (WF none) 0 P f cargs w fun e w'=>e = .returned cv∧Below w.heap.size w w':=callsIn_wide.2 h2
 refine h3.mono ?_
 rintro e w' ⟨rfl,h4⟩
 obtain ⟨h5,h6⟩:=hp.called h4
 exact ⟨cv,rfl,rho,VR.mono h6.mu v cv h1,h5,h6⟩
theorem vrs_one_str {m:M} {l n:Nat} {cargs:Array Value} (h:VRs m [.str l n] cargs.toList):cargs = #[.string ⟨(sbytes l n).toArray⟩]∧n<256 ^ l:=by
 simp only [VRs,VR] at h
 obtain ⟨c,r,h1,⟨rfl,h2⟩,rfl⟩:=h
 exact ⟨by apply Array.ext';exact h1,h2⟩
end
theorem toI_nat {k:IntKind} {n:Nat} (hk:k.signed=false) (h:n<kMod k):toI k n=n:=by
 unfold toI IntKind.wrap kMod at *
 rw [hk]
 simp only [Bool.false_and,Bool.false_eq_true,if_false]
 have:(n:Int) % (2 ^ k.bits:Nat)=n:=Int.emod_eq_of_lt (by omega) (by exact_mod_cast h)
 simpa using this
noncomputable def nCrc1 (args:List V) (H:Heap) (k:K):R:=List.rec (motive:=fun _=>R) (no 0) (fun x r _=>List.rec (motive:=fun _=>R) (vStr 0 x fun l n=>ifB (Nat.ble l 16777216) (crcLoop l n 4294967295 fun c=>forceN (Nat.sub 4294967295 c) fun r=>k (.int 6 r) H) (no 0)) (fun _ _ _=>no 0) r) args
theorem nCrc1_ok {args:List V} {H:Heap} {k:K} (h:nCrc1 args H k=1):∃ l n,args=[.str l n]∧l≤16777216∧crcLoop l n 4294967295 (fun c=>forceN (Nat.sub 4294967295 c) fun r=>k (.int 6 r) H)=1:=by
 match args,h with
 | [],h=>exact (no_ne h).elim
 | [x],h=>
  obtain ⟨l,n,rfl,h1⟩:=vStr_ok (id:=0) (x:=x) (k:=fun l n=>ifB (Nat.ble l 16777216) (crcLoop l n 4294967295 fun c=>forceN (Nat.sub 4294967295 c) fun r=>k (.int 6 r) H) (no 0)) h
  obtain ⟨h2,h3⟩:=ifB_no h1
  exact ⟨l,n,rfl,ble_of h2,h3⟩
 | x :: y :: r,h=>exact (no_ne h).elim
def joinB (sep:List UInt8):List (List UInt8)→List UInt8
 | [] => []
 | [x]=>x
 | x :: y :: r=>x ++ (sep ++ joinB sep (y :: r))
theorem shl8 (n l:Nat):Nat.shiftLeft n (Nat.mul 8 l)=n * 256 ^ l:=by
 show n <<< (8 * l)=_
 rw [Nat.shiftLeft_eq,Nat.pow_mul]
theorem str_cat {a b n m:Nat} (hn:n<256 ^ a) (hm:m<256 ^ b):sbytes (a+b) (n+m * 256 ^ a)=sbytes a n ++ sbytes b m∧n+m * 256 ^ a<256 ^ (a+b):=by
 refine ⟨by rw [Nat.mul_comm];exact sbytes_append a b n m hn, ?_⟩
 have h1:(m+1) * 256 ^ a≤256 ^ b * 256 ^ a:=Nat.mul_le_mul_right _ hm
 rw [Nat.pow_add,Nat.mul_comm (256 ^ a)]
 rw [Nat.add_mul,Nat.one_mul] at h1
 omega
theorem joinL_ok {sl sn:Nat} (hs:sn<256 ^ sl):∀ {l:List V} {k:Nat→Nat→R},joinL sl sn l k=1 → ∃ xs:List (Nat × Nat),l=xs.map (fun p=>V.str p.1 p.2) ∧ ∃ tl tn,k tl tn=1∧((∀ p ∈ xs,p.2<256 ^ p.1)→sbytes tl tn=joinB (sbytes sl sn) (xs.map fun p=>sbytes p.1 p.2)∧tn<256 ^ tl)
 | [],k,h=>⟨[],rfl,0,0,h,fun _=>⟨rfl,by simp⟩⟩
 | [v],k,h=>by
  have h':vStr 0 v (fun l n=>k l n)=1:=h
  obtain ⟨l,n,rfl,h1⟩:=vStr_ok h'
  exact ⟨[(l,n)],rfl,l,n,h1,fun hx=>⟨rfl,hx (l,n) (by simp)⟩⟩
 | v :: u :: r,k,h=>by
  have h':vStr 0 v (fun l n=>joinL sl sn (u :: r) fun rl rn=>forceN (Nat.add l (Nat.add sl rl)) fun tl=>forceN (Nat.add n (Nat.shiftLeft (Nat.add sn (Nat.shiftLeft rn (Nat.mul 8 sl))) (Nat.mul 8 l))) fun tn=>k tl tn)=1:=h
  obtain ⟨l,n,rfl,h1⟩:=vStr_ok h'
  obtain ⟨xs,h2,rl,rn,h3,h4⟩:=joinL_ok hs h1
  rw [forceN_eq,forceN_eq,shl8,shl8] at h3
  refine ⟨(l,n) :: xs,by rw [h2];rfl,_,_,h3,fun hx => ?_⟩
  obtain ⟨h5,h6⟩:=h4 fun p hp=>hx p (List.mem_cons_of_mem _ hp)
  have hn:n<256 ^ l:=hx (l,n) (List.mem_cons_self ..)
  obtain ⟨c1,c2⟩:=str_cat hs h6
  obtain ⟨c3,c4⟩:=str_cat hn c2
  refine ⟨?_,c4⟩
  refine c3.trans ?_
  rw [c1,h5]
  cases xs with
  | nil=>cases h2
  | cons p xs=>rfl
noncomputable def nJoin2 (args:List V) (H:Heap) (k:K):R:=List.rec (motive:=fun _=>R) (no 0) (fun x r _=>List.rec (motive:=fun _=>R) (no 0) (fun s r2 _=>List.rec (motive:=fun _=>R)
 (vStr 0 s fun sl sn=>ifB (Nat.blt sn (Nat.pow 256 sl)) (vSliceN 0 x (fun b o n _ _=>ifB (Nat.ble n 16777216) (ifB (Nat.beq n 0) (k (.str 0 0) H) (loadN 0 H b o n fun l=>joinL sl sn l fun tl tn=>ifB (Nat.ble tl 16777216) (k (.str tl tn) H) (no 0))) (no 0)) (k (.str 0 0) H)) (no 0)) (fun _ _ _=>no 0) r2) r) args
theorem nJoin2_ok {args:List V} {H:Heap} {k:K} (h:nJoin2 args H k=1):∃ x sl sn,args=[x, .str sl sn]∧sn<256 ^ sl∧vSliceN 0 x (fun b o n _ _=>ifB (Nat.ble n 16777216) (ifB (Nat.beq n 0) (k (.str 0 0) H) (loadN 0 H b o n fun l=>joinL sl sn l fun tl tn=>ifB (Nat.ble tl 16777216) (k (.str tl tn) H) (no 0))) (no 0)) (k (.str 0 0) H)=1:=by
 match args,h with
 | [],h=>exact (no_ne h).elim
 | [x],h=>exact (no_ne h).elim
 | [x,s],h=>
  obtain ⟨sl,sn,rfl,h1⟩:=vStr_ok (id:=0) (x:=s) (k:=fun sl sn=>ifB (Nat.blt sn (Nat.pow 256 sl)) (vSliceN 0 x (fun b o n _ _=>ifB (Nat.ble n 16777216) (ifB (Nat.beq n 0) (k (.str 0 0) H) (loadN 0 H b o n fun l=>joinL sl sn l fun tl tn=>ifB (Nat.ble tl 16777216) (k (.str tl tn) H) (no 0))) (no 0)) (k (.str 0 0) H)) (no 0)) h
  obtain ⟨h2,h3⟩:=ifB_no h1
  exact ⟨x,sl,sn,rfl,blt_of h2,h3⟩
 | x :: y :: z :: r,h=>exact (no_ne h).elim
structure JoinOK (P:Program) (f:FuncId):Prop where
 hfn:∃ fn c,P.funcs[f]? = some fn∧fn.body=some c∧(fn.name == "runtime.NumGoroutine")=false
 hnone:∀ (a:Option Addr) (c:Nat) (sep:ByteArray) (w:World),Calls P f #[.slice a 0 c, .string sep] w fun e w'=>e = .returned (.string ⟨#[]⟩)∧w'=w
 hmany:∀ (bk o c:Nat) (xs:List ByteArray) (sep:ByteArray) (w:World),(∀ (j:Nat) x,xs[j]? = some x→w.cell? ⟨bk,o+j,none⟩=some (.string x))→bk<w.heap.size→xs.length≤140737488355328→xs.length≤c →
  (joinB sep.data.toList (xs.map (·.data.toList))).length≤140737488355328→Calls P f #[.slice (some ⟨bk,o,none⟩) xs.length c, .string sep] w fun e w'=>e = .returned (.string ⟨(joinB sep.data.toList (xs.map (·.data.toList))).toArray⟩)∧Below w.heap.size w w'
theorem JoinOK.nat {P:Program} {f:FuncId} (hj:JoinOK P f):NatOK P f nJoin2:=fun args H k h=>by
 obtain ⟨x,sl,sn,rfl,hs,h1⟩:=nJoin2_ok h
 obtain ⟨fn,c,hf,hb,hn⟩:=hj.hfn
 have empty:∀ (x:V),(∀ m cv,VR m x cv → ∃ a c,cv = .slice a 0 c)→CallF P f [x, .str sl sn] H (.str 0 0) H:=fun x hx=>
  CallF.of_calls hf hb hn fun base w0 rho w cargs hp hv=>by
   simp only [VRs] at hv
   obtain ⟨c1,r1,e1,v1,c2,r2,rfl,v2,rfl⟩:=hv
   obtain ⟨a,cp,rfl⟩:=hx _ _ v1
   simp only [VR] at v2
   obtain ⟨rfl,_⟩:=v2
   have hc:cargs = #[.slice a 0 cp, .string ⟨(sbytes sl sn).toArray⟩]:=by apply Array.ext';exact e1
   subst hc
   refine ⟨.string ⟨#[]⟩,by simp only [VR];exact ⟨rfl,by decide⟩,(hj.hnone a cp _ w).mono ?_⟩
   rintro e w' ⟨rfl,rfl⟩
   exact ⟨rfl,Below.refl _ _⟩
 rcases vSliceN_ok h1 with ⟨b,o,n,cp,sz,rfl,h2⟩ | ⟨rfl,h2⟩
 ·obtain ⟨h3,h4⟩:=ifB_no h2
  rcases ifB_or h4 with ⟨h5,h6⟩ | ⟨h5,h6⟩
  ·have:=beq_of h5
   subst this
   exact ⟨_,H,empty _ (fun m cv hv=>by simp only [VR] at hv;obtain ⟨c,cap,o',sp,rfl,_⟩:=hv;exact ⟨_,_,rfl⟩),h6⟩
  ·obtain ⟨row,h7,h8,h9⟩:=loadN_ok h6
   have hn0:n≠0:=by
    rintro rfl
    cases h5
   obtain ⟨xs,h10,tl,tn,h11,h12⟩:=joinL_ok hs h9
   obtain ⟨h13,h14⟩:=ifB_no h11
   have htl:=ble_of h13
   have hlen:xs.length=n:=by
    have:=congrArg List.length h10
    simp at this
    omega
   refine ⟨_,H,CallF.of_calls hf hb hn fun base w0 rho w cargs hp hv => ?_,h14⟩
   simp only [VRs] at hv
   obtain ⟨c1,r1,e1,v1,c2,r2,rfl,v2,rfl⟩:=hv
   simp only [VR] at v1 v2
   obtain ⟨c,cap,o',sp,rfl,hm,hcap,hcp,ho⟩:=v1
   obtain ⟨rfl,_⟩:=v2
   obtain ⟨rfl,rfl⟩:o'=o∧sp=none:=by
    rcases ho with h | h
    ·exact h
    ·omega
   have hc:cargs = #[.slice (some ⟨c,o',none⟩) n cap, .string ⟨(sbytes sl sn).toArray⟩]:=by apply Array.ext';exact e1
   subst hc
   have hrho:=hp.rho_of hm h7
   have hcell:∀ j p,xs[j]? = some p → ∃ cv,w.cell? ⟨c,o'+j,none⟩=some cv∧VR (mu rho H w) (.str p.1 p.2) cv:=fun j p hj=>by
    have hrow:row[o'+j]? = some (.str p.1 p.2):=by
     have h15:((row.drop o').take n)[j]? = some (.str p.1 p.2):=by rw [h10,List.getElem?_map,hj];rfl
     rw [List.getElem?_take] at h15
     split at h15
     ·simpa using h15
     ·cases h15
    obtain ⟨cv,g1,g2,_⟩:=hp.cell hrho h7 hrow
    exact ⟨cv,g1,g2⟩
   have hok:∀ p ∈ xs,p.2<256 ^ p.1:=fun p hp'=>by
    obtain ⟨j,hj,rfl⟩:=List.mem_iff_getElem.1 hp'
    obtain ⟨cv,_,g2⟩:=hcell j _ (List.getElem?_eq_getElem hj)
    simp only [VR] at g2
    exact g2.2
   obtain ⟨h16,h17⟩:=h12 hok
   have hmap:((xs.map fun p=>(⟨(sbytes p.1 p.2).toArray⟩:ByteArray)).map (·.data.toList))=xs.map fun p=>sbytes p.1 p.2:=by
    rw [List.map_map]
    exact List.map_congr_left fun p _=>rfl
   have hcall:=hj.hmany c o' cap (xs.map fun p=>(⟨(sbytes p.1 p.2).toArray⟩:ByteArray)) ⟨(sbytes sl sn).toArray⟩ w (fun j x hx=>by
     rw [List.getElem?_map] at hx
     obtain ⟨p,hp',rfl⟩:=Option.map_eq_some_iff.1 hx
     obtain ⟨cv,g1,g2⟩:=hcell j p hp'
     simp only [VR] at g2
     rw [g1,g2.1]) (hp.dom _ _ hrho).2.2.1 (by rw [List.length_map,hlen];have:=ble_of h3;omega) (by rw [List.length_map,hlen];exact hcap) (by rw [hmap,← h16,sbytes_length];omega)
   rw [hmap,← h16,List.length_map,hlen] at hcall
   exact ⟨_,by simp only [VR];exact ⟨trivial,h17⟩,hcall⟩
 ·exact ⟨_,H,empty _ (fun m cv hv=>by simp only [VR] at hv;exact ⟨_,_,hv⟩),h2⟩
noncomputable def nCopy0 (args:List V) (H:Heap) (k:K):R:=List.rec (motive:=fun _=>R) (no 0) (fun x r _=>List.rec (motive:=fun _=>R) (no 0) (fun s r2 _=>List.rec (motive:=fun _=>R)
 (vMap 0 x fun _=>vMap 0 s fun b=>hGet H b fun bl=>bMap 0 bl fun es=>List.rec (motive:=fun _=>R) (k (.tup []) H) (fun _ _ _=>no 0) es) (fun _ _ _=>no 0) r2) r) args
theorem nCopy0_ok {args:List V} {H:Heap} {k:K} (h:nCopy0 args H k=1):∃ a b,args=[.map a, .map b]∧H.get b = .map []∧k (.tup []) H=1:=by
 match args,h with
 | [],h=>exact (no_ne h).elim
 | [x],h=>exact (no_ne h).elim
 | [x,s],h=>
  obtain ⟨a,rfl,h1⟩:=vMap_ok (id:=0) (x:=x) (k:=fun _=>vMap 0 s fun b=>hGet H b fun bl=>bMap 0 bl fun es=>List.rec (motive:=fun _=>R) (k (.tup []) H) (fun _ _ _=>no 0) es) h
  obtain ⟨b,rfl,h2⟩:=vMap_ok h1
  rw [hGet_eq] at h2
  obtain ⟨es,h3,h4⟩:=bMap_ok h2
  cases es with
  | nil=>exact ⟨a,b,rfl,h3,h4⟩
  | cons p es=>exact (no_ne h4).elim
 | x :: y :: z :: r,h=>exact (no_ne h).elim
structure CopyOK (P:Program) (f:FuncId):Prop where
 hfn:∃ fn c,P.funcs[f]? = some fn∧fn.body=some c∧(fn.name == "runtime.NumGoroutine")=false
 hempty:∀ (bd bs clock:Nat) (w:World),w.heap[bs]? = some (.map #[] clock)→Calls P f #[.map (some bd), .map (some bs)] w fun e w'=>e = .returned (.tuple #[])∧Below w.heap.size w w'
theorem CopyOK.nat {P:Program} {f:FuncId} (hj:CopyOK P f):NatOK P f nCopy0:=fun args H k h=>by
 obtain ⟨a,b,rfl,h1,h2⟩:=nCopy0_ok h
 obtain ⟨fn,c,hf,hb,hn⟩:=hj.hfn
 refine ⟨_,H,CallF.of_calls hf hb hn fun base w0 rho w cargs hp hv => ?_,h2⟩
 simp only [VRs] at hv
 obtain ⟨c1,r1,e1,v1,c2,r2,rfl,v2,rfl⟩:=hv
 simp only [VR] at v1 v2
 obtain ⟨bd,rfl,hm1⟩:=v1
 obtain ⟨bs,rfl,hm2⟩:=v2
 have hc:cargs = #[.map (some bd), .map (some bs)]:=by apply Array.ext';exact e1
 subst hc
 obtain ⟨_,ents,clock,es',g1,gp,_,g2,_⟩:=hp.map_at h1 hm2
 have he:es'=[]:=gp.eq_nil
 subst he
 have hen:ents = #[]:=by simpa using g2.nil
 subst hen
 exact ⟨.tuple #[],by simp only [VR];exact ⟨#[],rfl,by simp only [VRs]⟩,hj.hempty bd bs clock w g1⟩
theorem TabOK.base {P:Program} (h:(P.funcs.toList.all fun fn => !(fn.name == "runtime.NumGoroutine"))=true):TabOK P (fun f=>(P.funcs[f]?).bind (compFn P f)):=fun f fe hf=>by
 obtain ⟨fn,h1,h2⟩:=Option.bind_eq_some_iff.1 hf
 refine Or.inl ⟨fn,h1, ?_,h2⟩
 have hm:fn ∈ P.funcs.toList:=by
  rw [← Array.getElem?_toList] at h1
  exact List.mem_of_getElem? h1
 have:=List.all_eq_true.1 h fn hm
 simpa using this
theorem TabOK.nat {P:Program} {t:Nat→Option FnE} {n:Nat} {g:List V→Heap→K→R} (hg:NatOK P n g) (ht:TabOK P t):TabOK P (fun f=>Bool.rec (motive:=fun _=>Option FnE) (t f) (some (.nat g)) (Nat.beq f n)):=fun f fe hf=>by
 replace hf:Bool.rec (motive:=fun _=>Option FnE) (t f) (some (.nat g)) (Nat.beq f n)=some fe:=hf
 cases hb:Nat.beq f n with
 | false=>rw [hb] at hf;exact ht f fe hf
 | true=>
  rw [hb] at hf
  obtain rfl:=beq_of hb
  cases hf
  exact Or.inr ⟨g,rfl,hg⟩
end Go.Ev
end
section
namespace Go.Ev
open Go.RowKit
noncomputable def nClone (args:List V) (H:Heap) (k:K):R:=List.rec (motive:=fun _=>R) (no 0) (fun x r _=>List.rec (motive:=fun _=>R)
 (vMap 0 x fun b=>hGet H b fun bl=>bMap 0 bl fun es=>hNew H (.map es) fun n H'=>k (.map n) H') (fun _ _ _=>no 0) r) args
structure CloneOK (P:Program) (f:FuncId):Prop where
 hfn:∃ fn c,P.funcs[f]? = some fn∧fn.body=some c∧(fn.name == "runtime.NumGoroutine")=false
 hclone:∀ (b:Nat) (es:Array MapEntry) (clock:Nat) (w:World),w.heap[b]? = some (.map es clock)→Calls P f #[.map (some b)] w fun e w'=>e = .returned (.map (some w.heap.size))∧w'=w.alloc (.map es clock)
theorem CloneOK.nat {P:Program} {f:FuncId} (hj:CloneOK P f):NatOK P f nClone:=fun args H k h=>by
 match args,h with
 | [],h=>exact (no_ne h).elim
 | x :: y :: r,h=>exact (no_ne h).elim
 | [x],h=>
  obtain ⟨b,rfl,h1⟩:=vMap_ok (id:=0) (x:=x) (k:=fun b=>hGet H b fun bl=>bMap 0 bl fun es=>hNew H (.map es) fun n H'=>k (.map n) H') h
  rw [hGet_eq] at h1
  obtain ⟨es,hb,h2⟩:=bMap_ok h1
  obtain ⟨H',h3,hN⟩:=hNew_ok h2
  obtain ⟨fn,c,hf,hbd,hn⟩:=hj.hfn
  refine ⟨_,H',fun base w0 rho w cargs hp hv => ?_,h3⟩
  simp only [VRs] at hv
  obtain ⟨c1,r1,e1,v1,rfl⟩:=hv
  simp only [VR] at v1
  obtain ⟨bs,rfl,hm⟩:=v1
  have hc:cargs = #[.map (some bs)]:=by apply Array.ext';exact e1
  subst hc
  obtain ⟨_,ents,clock,es',g1,gp,go,g2,gs⟩:=hp.map_at hb hm
  refine ⟨run_callFunc hf hbd hn _ _, ?_⟩
  refine CallsIn.mono (callsIn_wide.2 (hj.hclone bs ents clock w g1)) ?_
  rintro e w' ⟨rfl,rfl⟩
  obtain ⟨p1,p2⟩:=hp.alloc (w':=w.alloc (.map ents clock)) (o := .map ents clock) hN.n hN.wlo hN.get hN.oth trivial ⟨rfl,rfl,rfl⟩ (by simp) (World.alloc_heap_new w _) (fun j hj=>Below.heap_alloc _ _ _ hj) ⟨ents,clock,es',rfl,gp,go,gs,g2.1,g2.2⟩
  exact ⟨_,rfl,_,by simp only [VR];exact ⟨_,rfl,by rw [hN.n];omega,fun _=>by simp⟩,p1,p2⟩
noncomputable def copyL (l:List (V × V)):List (V × V)→(List (V × V)→R)→R:=List.rec (motive:=fun _=>List (V × V)→(List (V × V)→R)→R) (fun acc k=>k acc)
 (fun p _ ih acc k=>Prod.rec (motive:=fun _=>R) (fun x y=>vInt 0 x fun _ _=>setL 0 false acc x y fun acc'=>ih acc' k) p) l
noncomputable def nCopyM (args:List V) (H:Heap) (k:K):R:=List.rec (motive:=fun _=>R) (no 0) (fun x r _=>List.rec (motive:=fun _=>R) (no 0) (fun s r2 _=>List.rec (motive:=fun _=>R)
 (vMap 0 x fun a=>vMap 0 s fun b=>ifB (Nat.beq a b) (no 0) (hGet H a fun ba=>bMap 0 ba fun ea=>hGet H b fun bb=>bMap 0 bb fun eb=>copyL eb ea fun res=>hSet 0 H a (.map res) fun H'=>k (.tup []) H')) (fun _ _ _=>no 0) r2) r) args
def Over (l acc r:List (V × V)):Prop:=∀ p,p ∈ r↔p ∈ l∨(p.1 ∉ l.map (·.1)∧p ∈ acc)
theorem over_one {x y:V} {acc r:List (V × V)} (ha:KeysOK (acc.map (·.1))) (h:(∃ v rest,acc.Perm ((x,v) :: rest)∧r.Perm ((x,y) :: rest))∨((∀ p ∈ acc,p.1≠x)∧r.Perm ((x,y) :: acc))):∀ p,p ∈ r↔p=(x,y)∨(p.1≠x∧p ∈ acc):=fun p=>by
 rcases h with ⟨v,rest,h1,h2⟩ | ⟨h1,h2⟩
 ·have h3:(acc.map (·.1)).Perm (x :: rest.map (·.1)):=h1.map _
  have hn:((x :: rest.map (·.1)):List V).Nodup:=h3.nodup_iff.1 ha.1
  have hx:∀ q ∈ rest,q.1≠x:=fun q hq e=>(List.nodup_cons.1 hn).1 (by rw [← e];exact List.mem_map.2 ⟨q,hq,rfl⟩)
  rw [h2.mem_iff,h1.mem_iff,List.mem_cons,List.mem_cons]
  constructor
  ·rintro (rfl | hp)
   ·exact Or.inl rfl
   ·exact Or.inr ⟨hx p hp,Or.inr hp⟩
  ·rintro (rfl | ⟨hne,rfl | hp⟩)
   ·exact Or.inl rfl
   ·exact absurd rfl hne
   ·exact Or.inr hp
 ·rw [h2.mem_iff,List.mem_cons]
  constructor
  ·rintro (rfl | hp)
   ·exact Or.inl rfl
   ·exact Or.inr ⟨h1 p hp,hp⟩
  ·rintro (rfl | ⟨_,hp⟩)
   ·exact Or.inl rfl
   ·exact Or.inr hp
theorem over_step {x y:V} {l acc a1 r:List (V × V)} (hx:x ∉ l.map (·.1)) (h1:∀ p,p ∈ a1↔p=(x,y)∨(p.1≠x∧p ∈ acc)) (h2:Over l a1 r):Over ((x,y) :: l) acc r:=fun p=>by
 rw [h2 p,h1 p,List.mem_cons,List.map_cons,List.mem_cons]
 constructor
 ·rintro (hp | ⟨hn,rfl | ⟨hne,hp⟩⟩)
  ·exact Or.inl (Or.inr hp)
  ·exact Or.inl (Or.inl rfl)
  ·exact Or.inr ⟨fun h=>h.elim hne hn,hp⟩
 ·rintro ((rfl | hp) | ⟨hn,hp⟩)
  ·exact Or.inr ⟨hx,Or.inl rfl⟩
  ·exact Or.inl hp
  ·exact Or.inr ⟨fun h=>hn (Or.inr h),Or.inr ⟨fun h=>hn (Or.inl h),hp⟩⟩
theorem copyL_ok:∀ {l acc:List (V × V)} {k:List (V × V)→R},copyL l acc k=1 → ∃ r,k r=1∧(∀ p ∈ l,∃ q n,p.1 = .int q n)∧(KeysOK (acc.map (·.1))→KeysOK (l.map (·.1))→KeysOK (r.map (·.1))∧Over l acc r ∧ ∀ p ∈ l,∀ q ∈ acc,KdK false p.1 q.1)
 | [],acc,k,h=>⟨acc,h,fun p hp=>(by cases hp),fun h1 _=>⟨h1,fun p=>by simp,fun p hp=>by cases hp⟩⟩
 | (x,y) :: l,acc,k,h=>by
  have h':vInt 0 x (fun _ _=>setL 0 false acc x y fun acc'=>copyL l acc' k)=1:=h
  obtain ⟨q,n,rfl,h1⟩:=vInt_ok h'
  obtain ⟨a1,h2,hkd,h3⟩:=setL_ok h1
  obtain ⟨r,h4,h5,h6⟩:=copyL_ok h2
  refine ⟨r,h4,fun p hp => ?_,fun ha hl => ?_⟩
  ·rcases List.mem_cons.1 hp with rfl | hp
   ·exact ⟨q,n,rfl⟩
   ·exact h5 p hp
  ·have hka:=kd_all hkd ha
   have ha1:KeysOK (a1.map (·.1)):=by
    rcases h3 with ⟨v,rest,g1,g2⟩ | ⟨g1,g2⟩
    ·exact keys_swap g1 g2 ha
    ·exact keys_new g1 g2 (Or.inl ⟨_,_,_,rfl,rfl⟩) hka ha
   have hl':KeysOK (l.map (·.1)):=KeysOK.tail hl
   obtain ⟨g1,g2,g3⟩:=h6 ha1 hl'
   have hone:=over_one ha h3
   have hxn:V.int q n ∉ l.map (·.1):=(List.nodup_cons.1 hl.1).1
   refine ⟨g1,over_step hxn hone g2,fun p hp c hc => ?_⟩
   rcases List.mem_cons.1 hp with rfl | hp
   ·exact hka c hc
   ·by_cases hcx:c.1 = .int q n
    ·have:=g3 p hp (.int q n,y) ((hone _).2 (Or.inl rfl))
     rw [hcx]
     exact this
    ·exact g3 p hp c ((hone _).2 (Or.inr ⟨hcx,hc⟩))
structure CopyMOK (P:Program) (f:FuncId):Prop where
 hfn:∃ fn c,P.funcs[f]? = some fn∧fn.body=some c∧(fn.name == "runtime.NumGoroutine")=false
 hcopy:∀ (m:M) (w:World) (bd bs cD cS:Nat) (D S:Array MapEntry) (esd ess:List (V × V)),bd≠bs→w.heap[bd]? = some (.map D cD)→w.heap[bs]? = some (.map S cS)→Ents m esd D.toList→Ents m ess S.toList→Stamps D cD→Stamps S cS →
  KeysOK (esd.map (·.1))→KeysOK (ess.map (·.1))→(∀ p ∈ ess,∃ q n,p.1 = .int q n)→(∀ p ∈ ess,∀ q ∈ esd,KdK false p.1 q.1) →
  Calls P f #[.map (some bd), .map (some bs)] w fun e w'=>e = .returned (.tuple #[]) ∧ ∃ D' cD' esd',w'.heap[bd]? = some (.map D' cD')∧Ents m esd' D'.toList∧Stamps D' cD'∧KeysOK (esd'.map (·.1))∧Over ess esd esd'∧(∀ j,j<w.heap.size→j≠bd→w'.heap[j]? = w.heap[j]?)∧w.heap.size≤w'.heap.size∧Same w w'
theorem nodup_of_keys {es:List (V × V)} (h:KeysOK (es.map (·.1))):es.Nodup:=(List.pairwise_map.1 h.1).imp fun h e=>h (by rw [e])
theorem PR.map_wrote {P:Program} {base:Nat} {w0 w w':World} {rho:Nat→Option Nat} {H H':Heap} (hp:PR P base w0 rho H w) {b c:Nat} {es es2 es':List (V × V)} {ents0 ents:Array MapEntry} {clock0 clock:Nat} (hb:H.get b = .map es) (hr:rho b=some c) (hw:w.heap[c]? = some (.map ents0 clock0)) (hS:SetTo H b (.map es2) H') (hperm:es'.Perm es2) (hok:KeysOK (es2.map (·.1))) (hst:Stamps ents clock) (he:Ents (mu rho H w) es' ents.toList)
  (hn:w'.heap[c]? = some (.map ents clock)) (ho:∀ j,j<w.heap.size→j≠c→w'.heap[j]? = w.heap[j]?) (hsz:w.heap.size≤w'.heap.size) (hs:Same w w') :
  PR P base w0 rho H' w'∧Ext rho H w rho H' w':=by
 obtain ⟨p1,x1⟩:=hp.map_write (ents:=ents) (clock:=clock) hb hr hw hS hperm hok hst he
 have hlt:c<w.heap.size:=(hp.dom b c hr).2.2.1
 have hbel:Below w.heap.size { w with heap:=w.heap.setIfInBounds c (.map ents clock) } w':=⟨hs.os,hs.tape,hs.output,by simpa using hsz,fun j hj=>by
  by_cases hjc:j=c
  ·subst hjc
   rw [hn]
   simp [hlt]
  ·rw [ho j hj hjc]
   simp [Array.getElem?_setIfInBounds_ne (Ne.symm hjc)]⟩
 obtain ⟨p2,x2⟩:=p1.called (by simpa using hbel)
 exact ⟨p2,Ext.trans hp.lt x1 x2⟩
theorem CopyMOK.nat {P:Program} {f:FuncId} (hj:CopyMOK P f):NatOK P f nCopyM:=fun args H k h=>by
 match args,h with
 | [],h=>exact (no_ne h).elim
 | [x],h=>exact (no_ne h).elim
 | x :: y :: z :: r,h=>exact (no_ne h).elim
 | [x,s],h=>
  obtain ⟨a,rfl,h1⟩:=vMap_ok (id:=0) (x:=x) (k:=fun a=>vMap 0 s fun b=>ifB (Nat.beq a b) (no 0) (hGet H a fun ba=>bMap 0 ba fun ea=>hGet H b fun bb=>bMap 0 bb fun eb=>copyL eb ea fun res=>hSet 0 H a (.map res) fun H'=>k (.tup []) H')) h
  obtain ⟨b,rfl,h2⟩:=vMap_ok h1
  rcases ifB_or h2 with ⟨_,h3⟩ | ⟨hab,h3⟩
  ·exact (no_ne h3).elim
  rw [hGet_eq] at h3
  obtain ⟨ea,hea,h4⟩:=bMap_ok h3
  rw [hGet_eq] at h4
  obtain ⟨eb,heb,h5⟩:=bMap_ok h4
  obtain ⟨res,h6,hint,hres⟩:=copyL_ok h5
  obtain ⟨H',h7,hS⟩:=hSet_ok h6
  obtain ⟨fn,c,hf,hbd,hn⟩:=hj.hfn
  have hne:a≠b:=fun e=>by subst e;rw [beq_dec] at hab;simp at hab
  refine ⟨_,H',fun base w0 rho w cargs hp hv => ?_,h7⟩
  simp only [VRs] at hv
  obtain ⟨c1,r1,e1,v1,c2,r2,rfl,v2,rfl⟩:=hv
  simp only [VR] at v1 v2
  obtain ⟨bd,rfl,hm1⟩:=v1
  obtain ⟨bs,rfl,hm2⟩:=v2
  have hc:cargs = #[.map (some bd), .map (some bs)]:=by apply Array.ext';exact e1
  subst hc
  obtain ⟨hr1,D,cD,esd,g1,gp1,go1,ge1,gs1⟩:=hp.map_at hea hm1
  obtain ⟨hr2,S,cS,ess,g2,gp2,go2,ge2,gs2⟩:=hp.map_at heb hm2
  have hbne:bd≠bs:=fun e=>hne (hp.inj a b bd hr1 (e ▸ hr2))
  obtain ⟨q1,q2,q3⟩:=hres go1 go2
  refine ⟨run_callFunc hf hbd hn _ _, ?_⟩
  have hcall:=hj.hcopy (mu rho H w) w bd bs cD cS D S esd ess hbne g1 g2 ge1 ge2 gs1 gs2 (keys_perm gp1 go1) (keys_perm gp2 go2) (fun p hp'=>hint p (gp2.mem_iff.1 hp')) (fun p hp' q hq=>q3 p (gp2.mem_iff.1 hp') q (gp1.mem_iff.1 hq))
  refine CallsIn.mono (callsIn_wide.2 hcall) ?_
  rintro e w' ⟨rfl,D',cD',esd',t1,t2,t3,t4,t5,t6,t7,t8⟩
  have hperm:esd'.Perm res:=by
   refine (List.perm_ext_iff_of_nodup (nodup_of_keys t4) (nodup_of_keys q1)).2 fun p => ?_
   rw [t5 p,q2 p,gp2.mem_iff,gp1.mem_iff,(gp2.map (·.1)).mem_iff]
  obtain ⟨p1,x1⟩:=hp.map_wrote hea hr1 g1 hS hperm q1 t3 t2 t1 t6 t7 t8
  exact ⟨.tuple #[],rfl,rho,by simp only [VR];exact ⟨#[],rfl,by simp only [VRs]⟩,p1,x1⟩
end Go.Ev
end
