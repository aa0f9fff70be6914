/- EvC: a part of the evaluator,of its logic,or of the laws' walk in it. -/
import Derived.Test.YtdimchccafgdoaaGreatDoorEvB
import Derived.OrdersIn
set_option linter.unusedVariables false
set_option linter.unusedSimpArgs false
set_option linter.unusedSectionVars false
section
namespace Go.Ev
open Go.RowKit
section
variable {P:Program} {nt:Nat} {o:Oper} {id:Nat} {ph:Phi} {e:Env} {H:Heap} {k:K}
theorem minN_ok {a b:Nat} {f:Nat→R} (h:minN a b f=1):f (Nat.min a b)=1:=by
 rcases ifB_or h with ⟨h1,h2⟩ | ⟨h1,h2⟩
 ·have:=ble_of h1
  rw [show Nat.min a b=a from Nat.min_eq_left this];exact h2
 ·have:¬ a≤b:=fun hle=>by rw [Nat.ble_eq_true_of_le hle] at h1;cases h1
  rw [show Nat.min a b=b from Nat.min_eq_right (by omega)];exact h2
theorem s_copy {as:Array Operand} {ts:Array TypeId} (hop:o.op = .call { callee := .builtin .copy,args:=as,argTypes:=ts }) (h:evOp (compOp P nt o) id ph e H k=1):Good P nt o e H k:=by
 simp only [compOp,hop,compBuiltin] at h
 have hnd:∀ c,o.op ≠ .defer c:=by simp [hop]
 split at h
 ·rename_i d s t tr hx hts
  obtain ⟨p,q,rfl,hp',hq'⟩:=args2 hx
  have hts':ts[0]? = some t:=by rw [← Array.getElem?_toList,hts];rfl
  split at h
  ·rename_i el hel
   split at h
   ·rename_i size hs
    obtain ⟨i,hi,hisz⟩:∃ i,P.info? el=some i∧i.size=size:=by
     unfold szT at hs
     simp only [Option.map_eq_some_iff] at hs
     exact hs
    have hsz:∀ w:World,(sizeOf el).run P w = .ok size w:=fun w=>by simp [sizeOf,typeInfo,hi,hisz]
    have h':eCopy size d s id ph e H k=1:=h
    unfold eCopy at h'
    rw [getA_eq,getA_eq] at h'
    have key:∀ (v:V) (H':Heap),(∀ (base:Nat) (w0:World) (rho:Nat→Option Nat) (w:World) (cs cx:Value),PR P base w0 rho H w→VR (mu rho H w) (pgetA d e) cs→VR (mu rho H w) (pgetA s e) cx → ∃ cv w',(Builtin.copy_ ts o.type #[cs,cx]).run P w = .ok cv w'∧Left P base w0 rho H w v H' cv w')→OpS P nt o e H v H':=fun v H' hh=>
     OpS.of_run hnd fun base w0 rho w a hp ho=>by
      obtain ⟨cv,w',h1,h2⟩:=hh base w0 rho w _ _ hp (ho p (by simp [hop,Op.operands,Call.operands]) d hp') (ho q (by simp [hop,Op.operands,Call.operands]) s hq')
      refine ⟨cv,w', ?_,h2⟩
      rw [builtin_ex hop a.eval]
      simp [builtin,h1]
    rcases vSliceN_ok h' with ⟨b,off,dl,cp,sz,hsv,h1⟩ | ⟨hsv,h1⟩
    ·obtain ⟨sl,h2,hlen⟩:=lenSL_ok h1
     have h3:=minN_ok h2
     obtain ⟨n0,l,h4,hN⟩:=newCells_ok (P:=P) h3
     obtain ⟨h5,h6⟩:=takeN_ok h4
     have hrun:∀ {base:Nat} {w0 w:World} {rho:Nat→Option Nat} {cx:Value} (c o' cap:Nat) (sp:Option Nat),PR P base w0 rho H w→VR (mu rho H w) (pgetA s e) cx → ∃ cl:List Value,VRs (mu rho H w) (l.take (Nat.min sl dl * size)) cl ∧ ∀ w',(storeCells ⟨c,o',sp⟩ cl 0).run P w = .ok () w'→(Builtin.copy_ ts o.type #[.slice (some ⟨c,o',sp⟩) dl cap,cx]).run P w = .ok (.int .i64 (Nat.min sl dl)) w':=by
      intro base w0 w rho cx c o' cap sp hp vx
      have e1:=hlen _ _ vx w
      have e2:=hN.1 _ _ vx w
      rw [e1] at e2
      cases e2
      obtain ⟨hll,h7⟩:=hN.2 hp vx
      obtain ⟨cl,g1,g2⟩:=h7 (Nat.min sl dl) (Nat.min_le_left _ _)
      exact ⟨cl,g2,fun w' hw'=>by simp [Builtin.copy_,hts',run_underlying (sliceT_ok hel),e1,hsz,g1,hw',goInt]⟩
     cases hmin:Nat.min sl dl with
     | zero=>
      rw [hmin] at h6
      have h7:k (.int 3 0) H=1:=h6
      refine ⟨_,_,key _ _ fun base w0 rho w cs cx hp vs vx => ?_,h7⟩
      rw [hsv] at vs
      simp only [VR] at vs
      obtain ⟨c,cap,o',sp,rfl,hm,_⟩:=vs
      obtain ⟨cl,g1,g2⟩:=hrun c o' cap sp hp vx
      rw [hmin,Nat.zero_mul,List.take_zero] at g1
      simp only [VRs] at g1
      subst g1
      refine ⟨_,w,g2 w rfl,rho, ?_,hp,Ext.refl hp.lt⟩
      rw [hmin]
      exact vr_goInt (by omega)
     | succ m=>
      rw [hmin] at h6
      have h7:storeN id H b off (l.take ((m+1) * size)) (fun H=>lenR id (m+1) H k)=1:=h6
      obtain ⟨H',h8,h9⟩:=storeN_pure (P:=P) h7
      have hone:=storeN_one h7
      obtain ⟨hlt,h8⟩:=lenR_ok h8
      refine ⟨_,_,key _ _ fun base w0 rho w cs cx hp vs vx => ?_,h8⟩
      rw [hsv] at vs
      simp only [VR] at vs
      obtain ⟨c,cap,o',sp,rfl,hm,hle,hcp,ho'⟩:=vs
      obtain ⟨rfl,rfl⟩:o'=off∧sp=none:=by
       rcases ho' with h | h
       ·exact h
       ·have:dl=0:=by omega
        subst this
        have:Nat.min sl 0=0:=Nat.min_zero _
        omega
      obtain ⟨cl,g1,g2⟩:=hrun c _ cap none hp vx
      rw [hmin] at g1
      obtain ⟨w',p1,p2,p3⟩:=h9 hp hm hone g1
      refine ⟨_,w',g2 w' p1,rho, ?_,p2,p3⟩
      rw [hmin]
      exact vr_goInt hlt
    ·obtain ⟨n0,l,h4,hN⟩:=newCells_ok (P:=P) h1
     refine ⟨_,_,key _ _ fun base w0 rho w cs cx hp vs vx => ?_,h4⟩
     rw [hsv] at vs
     simp only [VR] at vs
     subst vs
     have e1:=hN.1 _ _ vx w
     obtain ⟨hll,h7⟩:=hN.2 hp vx
     obtain ⟨cl,g1,g2⟩:=h7 0 (Nat.zero_le _)
     have hm0:Nat.min n0 0=0:=Nat.min_zero _
     exact ⟨_,w,by simp [Builtin.copy_,hts',run_underlying (sliceT_ok hel),e1,hsz,hm0,g1],rho,vr_goInt (by omega),hp,Ext.refl hp.lt⟩
   ·exact (no_ne h).elim
  ·exact (no_ne h).elim
 ·exact (no_ne h).elim
end
end Go.Ev
end
section
namespace Go.Ev
open Go.RowKit
section
variable {P:Program} {nt:Nat} {o:Oper} {id:Nat} {ph:Phi} {e:Env} {H:Heap} {k:K}
theorem bad_ok (hc:compOp P nt o = .bad) (h:evOp (compOp P nt o) id ph e H k=1):Good P nt o e H k:=by
 rw [hc] at h
 exact (no_ne h).elim
theorem evOp_sound (hph:PhiOK P ph) (h:evOp (compOp P nt o) id ph e H k=1):Good P nt o e H k:=by
 cases hop:o.op with
 | move x=>exact s_move (.inl hop) h
 | assign x=>exact s_move (.inr hop) h
 | pick c x y=>exact s_pick hop h
 | alloc t=>exact s_alloc hop h
 | box t x=>exact s_box hop h
 | build t ps=>exact s_build hop h
 | buildSlice t l ps=>exact s_buildSlice hop h
 | insert t m x y=>exact s_mapUpdate (.inr hop) h
 | mapUpdate t m x y=>exact s_mapUpdate (.inl hop) h
 | load t x=>exact s_load hop h
 | store t x y=>exact s_store hop h
 | nilCheck x=>exact s_nilc hop h
 | binOp op xt x y yt=>exact s_binOp hop h
 | unOp op xt x=>exact s_unOp hop h
 | convert s d x=>exact s_convert hop h
 | makeInterface t x=>exact s_makeInterface hop h
 | makeFunc f first caps=>
  cases f with
  | func f=>exact s_makeFunc hop h
  | _=>exact bad_ok (by simp only [compOp,hop]) h
 | makeMap t r=>
  cases r with
  | none=>exact s_makeMap hop h
  | some r=>exact bad_ok (by simp only [compOp,hop]) h
 | makeSlice t l c=>exact s_makeSlice hop h
 | slice t x lo hi mx=>exact s_slice hop h
 | fieldAddr t x f=>exact s_fieldAddr hop h
 | field t x f=>exact s_field hop h
 | indexAddr t x i=>exact s_indexAddr hop h
 | index t x i=>exact s_index hop h
 | lookup t m x ok=>exact s_lookup hop h
 | extract x i=>exact s_extract hop h
 | call c=>
  obtain ⟨callee,as,ts⟩:=c
  cases callee with
  | value x=>
   cases x with
   | func f=>exact s_callFunc hph hop h
   | tmp t=>exact s_callVal hph hop h
   | _=>exact bad_ok (by simp only [compOp,hop]) h
  | builtin b=>
   cases b with
   | len=>exact s_len hop h
   | cap=>exact s_cap hop h
   | append=>exact s_append hop h
   | copy=>exact s_copy hop h
   | delete=>exact s_delete hop h
   | max=>exact s_mm (mx:=true) hop h
   | min=>exact s_mm (mx:=false) hop h
   | _=>exact bad_ok (by simp only [compOp,hop,compBuiltin]) h
  | _=>exact bad_ok (by simp only [compOp,hop]) h
 | _=>exact bad_ok (by simp only [compOp,hop]) h
end
end Go.Ev
end
section
namespace Go.Ev
open Go.RowKit
theorem wpIn_lift {F:Fence} {n:Nat} {P:Program} {o:Oper} {a:Act} {w:World} {K K':Act→World→Prop} {Q:Exit→Act→World→Prop} (h:o.wpIn F n P a w K (fun _ _ _=>False)) (hk:∀ a w,K a w→K' a w):o.wpIn F n P a w K' Q:=by
 refine ⟨h.1, ?_⟩
 have h:=h.2
 generalize (o.semAt F.round a.eval).run P w=r at *
 cases r with
 | ok x w'=>
  cases x <;> simp only [Oper.uponIn] at h ⊢
  case value v=>exact hk _ _ h
  case skip=>exact hk _ _ h
  case defer d=>exact hk _ _ h
  case enter f args=>
   refine ⟨h.1,CallsIn.mono h.2 fun e w'' he => ?_⟩
   cases e with
   | returned u=>exact hk _ _ he
   | panicked c=>exact he.elim
   | outgrown=>obtain ⟨_,_,h⟩:=he;exact h.elim
  case row row args=>exact ⟨h.1,RowsIn.mono h.2 fun u w'' he=>hk _ _ he⟩
  case round l f tmps assign body=>
   refine ⟨h.1,RoundIn.mono h.2 fun e w'' he => ?_⟩
   cases e with
   | returned u=>exact hk _ _ he
   | panicked c=>exact he.elim
   | outgrown=>obtain ⟨_,_,h⟩:=he;exact h.elim
 | halt x w'=>
  cases x <;> simp only [Oper.uponIn] at h ⊢
theorem isB_or {x:V} {b:Bool} {t f:R} (h:isB x b t f=1):(x = .bool b∧t=1)∨(x ≠ .bool b∧f=1):=by
 cases x <;> first | exact Or.inr ⟨(by intro h;cases h),h⟩ | skip
 rename_i c
 cases c <;> cases b <;> first | exact Or.inl ⟨rfl,h⟩ | exact Or.inr ⟨(by intro h;cases h),h⟩
theorem vr_bool {m:M} {x:V} {b:Bool} (h:VR m x (.bool b)):x = .bool b:=by
 cases x <;> simp only [VR] at h <;> first | exact Value.noConfusion h | exact Value.noConfusion h.1 | (obtain ⟨_,h,_⟩:=h;exact Value.noConfusion h) | (obtain ⟨_,_,_,_,h,_⟩:=h;exact Value.noConfusion h) | (cases h;rfl)
theorem vr_undef {m:M}:VR m (.tup []) undef:=by
 simp only [VR];exact ⟨#[],rfl,by simp only [VRs]⟩
def GT (nt:Nat) (m:M) (e:Env) (ops:Array Oper) (o:Oper) (tmps:Array Value):Prop:=∀ j b o' d,o.guard=some (j,b)→ops[j]? = some o'→o'.dst=some d→d<nt → ∃ v,tmps[d]? = some v∧VR m (pget (slotOf d) e) v
def GW (nt:Nat) (e:Env) (ops:Array Oper) (o:Oper) (b:Bool):Prop:=∀ (m:M) (tmps:Array Value),GT nt m e ops o tmps→Region.wanted o (yielded ops tmps)=b
theorem TR.gt {m:M} {nt:Nat} {e:Env} {tmps:Array Value} (h:TR m nt e tmps) (ops:Array Oper) (o:Oper):GT nt m e ops o tmps:=fun j b o' d _ _ _ hlt=>by
 have hs:=h.size
 have hlt':d<tmps.size:=by rw [hs];exact hlt
 exact ⟨_,Array.getElem?_eq_getElem hlt',h.get d _ (Array.getElem?_eq_getElem hlt')⟩
theorem wantG_or {nt:Nat} {e:Env} {ops:Array Oper} {o:Oper} {g:Option (Slot × Bool)} (hg:guardOf nt ops o.guard=some g) {t f:R} (h:wantG g e t f=1) :
  (t=1∧GW nt e ops o true)∨(f=1∧GW nt e ops o false):=by
 unfold guardOf at hg
 split at hg
 ·rename_i hn
  cases hg
  exact Or.inl ⟨h,fun m tmps ht=>by simp [Region.wanted,hn]⟩
 ·rename_i j b hn
  split at hg
  ·rename_i o' ho'
   split at hg
   ·rename_i d hd
    split at hg
    ·rename_i hlt
     cases hg
     have h':getS (slotOf d) e (fun v=>isB v b t f)=1:=h
     rw [getS_eq] at h'
     rcases isB_or h' with ⟨h1,h2⟩ | ⟨h1,h2⟩
     ·refine Or.inl ⟨h2,fun m tmps ht => ?_⟩
      obtain ⟨c,hex,h3⟩:=ht j b o' d hn ho' hd hlt
      rw [h1] at h3
      simp only [VR] at h3
      simp [Region.wanted,hn,yielded,ho',hd,hex,h3]
     ·refine Or.inr ⟨h2,fun m tmps ht => ?_⟩
      obtain ⟨c,hex,h3⟩:=ht j b o' d hn ho' hd hlt
      have h4:yielded ops tmps j≠some b:=by
       simp only [yielded,ho',Option.bind_some,hd,hex]
       split
       ·rename_i c hc
        rw [Option.some.injEq] at hc
        rw [hc] at h3
        intro he
        cases he
        exact h1 (vr_bool h3)
       ·intro he;cases he
      simp [Region.wanted,hn,h4]
    ·cases hg
   ·cases hg
  ·cases hg
def psetD (d:Option Slot) (v:V) (e:Env):Env:=match d with
 | none=>e
 | some s=>pset s v e
theorem setD_eq (d:Option Slot) (v:V) (e:Env) (k:Env→R):setD d v e k=k (psetD d v e):=by
 cases d with
 | none=>rfl
 | some s=>exact setS_eq s v e k
theorem put_ok {m:M} {nt:Nat} {e:Env} {a:Act} (h:TR m nt e a.tmps) {dst:Option Tmp} {d:Option Slot} (hd:dstOf nt dst=some d) {v:V} {c:Value} (hv:VR m v c):TR m nt (psetD d v e) (a.put dst c).tmps:=by
 unfold dstOf at hd
 split at hd
 ·cases hd;exact h
 ·split at hd
  ·rename_i hlt
   cases hd
   exact h.put hlt hv
  ·cases hd
theorem put_defers (a:Act) (dst:Option Tmp) (c:Value):(a.put dst c).defers=a.defers:=by cases dst <;> rfl
def RS (P:Program) (nt:Nat) (ops:Array Oper) (l:List Oper) (e:Env) (H:Heap) (e':Env) (H':Heap):Prop:=
 ∀ (rd:Option Nat) (base:Nat) (w0:World) (rho:Nat→Option Nat) (w:World) (a:Act),PR P base w0 rho H w→TR (mu rho H w) nt e a.tmps →
  ∀ (Q:Exit→Act→World→Prop),(∀ a' w' rho',a'.defers=a.defers→PR P base w0 rho' H' w'→TR (mu rho' H' w') nt e' a'.tmps→Ext rho H w rho' H' w'→Q .normal a' w')→wpListIn (WF rd) 0 P ops Q l a w
theorem evReg_ok {P:Program} {nt:Nat} {ph:Phi} {ops:Array Oper} {base:Nat} {pl al:List Bool} {bf:Array Nat} (hph:PhiOK P ph):∀ (l:List Oper) (i:Nat) (r:List OpW) (e:Env) (H:Heap) (k:Env→Heap→R),compRegG P nt base ops pl al bf l i=some r→evReg ph r e H k=1 →
  ∃ e' H',RS P nt ops l e H e' H'∧k e' H'=1
 | [],i,r,e,H,k,hc,h=>by
  simp only [compRegG,Option.some.injEq] at hc
  subst hc
  exact ⟨e,H,fun rd base w0 rho w a hp ht Q hq=>hq a w rho rfl hp ht (Ext.refl hp.lt),h⟩
 | o :: l,i,r,e,H,k,hc,h=>by
  simp only [compRegG] at hc
  split at hc
  ·rename_i d g r' hd hg hr
   cases hc
   have h':wantG g e (evOp (compOp P nt o) (base+i) ph e H fun v H'=>setD d v e fun e'=>evReg ph r' e' H' k) (setD d (.tup []) e fun e'=>evReg ph r' e' H k)=1:=h
   rcases wantG_or hg h' with ⟨h1,h2⟩ | ⟨h1,h2⟩
   ·obtain ⟨v,H1,h3,h4⟩:=evOp_sound hph h1
    replace h4:setD d v e (fun e'=>evReg ph r' e' H1 k)=1:=h4
    rw [setD_eq] at h4
    obtain ⟨e',H',h5,h6⟩:=evReg_ok hph l (i+1) r' _ _ k hr h4
    refine ⟨e',H',fun rd base w0 rho w a hp ht Q hq => ?_,h6⟩
    simp only [wpListIn,h2 _ _ (ht.gt ops o),if_true]
    refine wpIn_lift (h3 rd base w0 rho w a hp (ht.or o)) fun a1 w1 hk => ?_
    obtain ⟨cv,rfl,rho1,v1,p1,x1⟩:=hk
    exact h5 rd base w0 rho1 w1 _ p1 (put_ok (ht.mono x1.mu) hd v1) Q fun a' w' rho' q1 q2 q3 q4=>hq a' w' rho' (q1.trans (put_defers _ _ _)) q2 q3 (Ext.trans hp.lt x1 q4)
   ·rw [setD_eq] at h1
    obtain ⟨e',H',h5,h6⟩:=evReg_ok hph l (i+1) r' _ _ k hr h1
    refine ⟨e',H',fun rd base w0 rho w a hp ht Q hq => ?_,h6⟩
    simp only [wpListIn,h2 _ _ (ht.gt ops o),Bool.false_eq_true,if_false]
    refine ⟨fun _ _=>trivial, ?_⟩
    exact h5 rd base w0 rho w _ hp (put_ok ht hd vr_undef) Q fun a' w' rho' q1 q2 q3 q4=>hq a' w' rho' (q1.trans (put_defers _ _ _)) q2 q3 q4
  ·cases hc
end Go.Ev
end
section
namespace Go.Ev
open Go.RowKit
def Sel {α : Type} (f:(α → R)→R):Prop:=(∃ a,∀ k,f k=k a) ∨ ∀ k,f k≠1
section
variable {α β : Type} {id:Nat}
theorem Sel.ret (a : α):Sel fun k=>k a:=Or.inl ⟨a,fun _=>rfl⟩
theorem Sel.no (c:Nat):Sel fun _ : α → R=>no c:=Or.inr fun k h=>no_ne h
theorem Sel.bind {f:(β → R)→R} {g : β → (α → R)→R} (h:Sel f) (hg:∀ b,Sel (g b)):Sel fun k=>f fun b=>g b k:=by
 rcases h with ⟨b,hb⟩ | h
 ·rcases hg b with ⟨a,ha⟩ | h
  ·exact Or.inl ⟨a,fun k=>(hb _).trans (ha k)⟩
  ·exact Or.inr fun k=>by show f _≠1;rw [hb];exact h k
 ·exact Or.inr fun k=>h _
theorem Sel.ifB {b:Bool} {f g:(α → R)→R} (hf:Sel f) (hg:Sel g):Sel fun k=>Ev.ifB b (f k) (g k):=by
 cases b
 ·exact hg
 ·exact hf
theorem Sel.getA {a:Arg} {e:Env} {g:V→(α → R)→R} (hg:∀ b,Sel (g b)):Sel fun k=>Ev.getA a e fun b=>g b k:=by
 simp only [getA_eq];exact hg _
theorem Sel.getAs {l:List Arg} {e:Env} {g:List V→(α → R)→R} (hg:∀ b,Sel (g b)):Sel fun k=>Ev.getAs l e fun b=>g b k:=by
 simp only [getAs_eq];exact hg _
theorem Sel.forceN {n:Nat} {g:Nat→(α → R)→R} (hg:∀ b,Sel (g b)):Sel fun k=>Ev.forceN n fun b=>g b k:=by
 simp only [forceN_eq];exact hg _
theorem Sel.vInt {x:V} {g:Nat→Nat→(α → R)→R} (hg:∀ a b,Sel (g a b)):Sel fun k=>Ev.vInt id x fun a b=>g a b k:=by
 cases x <;> first | exact Or.inr fun k h=>no_ne h | exact hg _ _
theorem Sel.vBool {x:V} {g:Bool→(α → R)→R} (hg:∀ a,Sel (g a)):Sel fun k=>Ev.vBool id x fun a=>g a k:=by
 cases x <;> first | exact Or.inr fun k h=>no_ne h | exact hg _
theorem Sel.vStr {x:V} {g:Nat→Nat→(α → R)→R} (hg:∀ a b,Sel (g a b)):Sel fun k=>Ev.vStr id x fun a b=>g a b k:=by
 cases x <;> first | exact Or.inr fun k h=>no_ne h | exact hg _ _
theorem Sel.vPtr {x:V} {g:Nat→Nat→(α → R)→R} (hg:∀ a b,Sel (g a b)):Sel fun k=>Ev.vPtr id x fun a b=>g a b k:=by
 cases x <;> first | exact Or.inr fun k h=>no_ne h | exact hg _ _
theorem Sel.vSlice {x:V} {g:Nat→Nat→Nat→Nat→Nat→(α → R)→R} (hg:∀ a b c d e,Sel (g a b c d e)):Sel fun k=>Ev.vSlice id x fun a b c d e=>g a b c d e k:=by
 cases x <;> first | exact Or.inr fun k h=>no_ne h | exact hg _ _ _ _ _
theorem Sel.vSliceN {x:V} {g:Nat→Nat→Nat→Nat→Nat→(α → R)→R} {z:(α → R)→R} (hg:∀ a b c d e,Sel (g a b c d e)) (hz:Sel z):Sel fun k=>Ev.vSliceN id x (fun a b c d e=>g a b c d e k) (z k):=by
 cases x <;> first | exact Or.inr fun k h=>no_ne h | exact hg _ _ _ _ _ | exact hz
theorem Sel.vAgg {x:V} {g:List V→(α → R)→R} (hg:∀ a,Sel (g a)):Sel fun k=>Ev.vAgg id x fun a=>g a k:=by
 cases x <;> first | exact Or.inr fun k h=>no_ne h | exact hg _
theorem Sel.vTup {x:V} {g:List V→(α → R)→R} (hg:∀ a,Sel (g a)):Sel fun k=>Ev.vTup id x fun a=>g a k:=by
 cases x <;> first | exact Or.inr fun k h=>no_ne h | exact hg _
theorem Sel.vCells {x:V} {g:List V→(α → R)→R} (hg:∀ a,Sel (g a)):Sel fun k=>Ev.vCells id x fun a=>g a k:=by
 cases x <;> first | exact hg _ | exact Or.inr fun k h=>no_ne h
theorem sel_nilly {x:V}:Sel (nilly id x):=by
 cases x <;> first | exact Or.inr fun k h=>no_ne h | exact Or.inl ⟨_,fun _=>rfl⟩ | skip
 rename_i b
 cases b <;> exact Or.inl ⟨_,fun _=>rfl⟩
theorem Sel.nilly {x:V} {g:Nat→(α → R)→R} (hg:∀ a,Sel (g a)):Sel fun k=>Ev.nilly id x fun a=>g a k:=Sel.bind sel_nilly hg
theorem sel_nth:∀ (l:List V) (i:Nat),Sel (nth id l i)
 | [],i=>Or.inr fun k h=>no_ne h
 | v :: l,0=>Or.inl ⟨v,fun _=>rfl⟩
 | v :: l,i+1=>sel_nth l i
theorem Sel.nth {l:List V} {i:Nat} {g:V→(α → R)→R} (hg:∀ a,Sel (g a)):Sel fun k=>Ev.nth id l i fun a=>g a k:=Sel.bind (sel_nth l i) hg
theorem sel_takeN:∀ (l:List V) (i:Nat),Sel (takeN id l i)
 | [],0=>Or.inl ⟨[],fun _=>rfl⟩
 | [],_+1=>Or.inr fun k h=>no_ne h
 | v :: l,0=>Or.inl ⟨[],fun _=>rfl⟩
 | v :: l,i+1=>Sel.bind (g:=fun r k=>k (v :: r)) (sel_takeN l i) fun r=>Sel.ret _
theorem Sel.takeN {l:List V} {i:Nat} {g:List V→(α → R)→R} (hg:∀ a,Sel (g a)):Sel fun k=>Ev.takeN id l i fun a=>g a k:=Sel.bind (sel_takeN l i) hg
theorem sel_dropN:∀ (l:List V) (i:Nat),Sel (dropN id l i)
 | [],0=>Or.inl ⟨[],fun _=>rfl⟩
 | [],_+1=>Or.inr fun k h=>no_ne h
 | v :: l,0=>Or.inl ⟨v :: l,fun _=>rfl⟩
 | v :: l,i+1=>sel_dropN l i
theorem Sel.dropN {l:List V} {i:Nat} {g:List V→(α → R)→R} (hg:∀ a,Sel (g a)):Sel fun k=>Ev.dropN id l i fun a=>g a k:=Sel.bind (sel_dropN l i) hg
theorem sel_over:∀ (m l:List V),Sel (over id m l)
 | [],l=>Or.inl ⟨l,fun _=>rfl⟩
 | x :: m,[]=>Or.inr fun k h=>no_ne h
 | x :: m,y :: l=>Sel.bind (g:=fun r k=>k (x :: r)) (sel_over m l) fun r=>Sel.ret _
theorem sel_setAt {m:List V}:∀ (l:List V) (i:Nat),Sel (setAt id m l i)
 | [],0=>sel_over (id:=id) m []
 | [],_+1=>Or.inr fun k h=>no_ne h
 | v :: l,0=>sel_over (id:=id) m (v :: l)
 | v :: l,i+1=>Sel.bind (g:=fun r k=>k (v :: r)) (sel_setAt l i) fun r=>Sel.ret _
theorem Sel.bnd {x:Option Arg} {e:Env} {d:Nat} {g:Nat→(α → R)→R} (hg:∀ a,Sel (g a)):Sel fun k=>Ev.bnd id x e d fun a=>g a k:=by
 cases x with
 | none=>exact hg d
 | some a=>exact Sel.getA fun v=>Sel.vInt fun kd n=>Sel.ifB (Sel.ifB (hg n) (Sel.no 0)) (Sel.no 0)
theorem Sel.idx {i:Arg} {e:Env} {len:Nat} {g:Nat→(α → R)→R} (hg:∀ a,Sel (g a)):Sel fun k=>Ev.idx id i e len fun a=>g a k:=
 Sel.getA fun v=>Sel.vInt fun kd n=>Sel.ifB (Sel.ifB (Sel.ifB (hg n) (Sel.no 0)) (Sel.no 0)) (Sel.no 0)
theorem sel_fillL {e:Env}:∀ (ps:List (Nat × Nat × Arg)) (z:List V),Sel (fillL id e ps z)
 | [],z=>Or.inl ⟨z,fun _=>rfl⟩
 | (off,size,a) :: ps,z=>Sel.getA (g:=fun v k=>Ev.vCells id v fun l=>Ev.ifB (Nat.beq (lenL l) size) (setAt id l z off fun z'=>fillL id e ps z' k) (Ev.no 0)) fun v=>Sel.vCells fun l=>Sel.ifB (Sel.bind (sel_setAt z off) fun z'=>sel_fillL ps z') (Sel.no 0)
end
theorem sel_evBF {id:Nat} (f:BF) (a b:Nat):Sel (evBF id f a b):=by
 cases f <;> first
  | exact Sel.forceN fun n=>Sel.ret n
  | exact Sel.ifB (Sel.forceN fun n=>Sel.ret n) (Sel.ifB (Sel.ret 0) (Sel.no 0))
  | exact Sel.ifB (Sel.ifB (Sel.forceN fun n=>Sel.ret n) (Sel.ifB (Sel.ret 0) (Sel.no 0))) (Sel.no 0)
  | exact Sel.ifB (Sel.ifB (Sel.ifB (Sel.no 0) (Sel.forceN fun n=>Sel.ret n)) (Sel.no 0)) (Sel.no 0)
theorem Sel.evBF {α : Type} {id:Nat} {f:BF} {a b:Nat} {g:Nat→(α → R)→R} (hg:∀ a,Sel (g a)):Sel fun k=>Ev.evBF id f a b fun a=>g a k:=Sel.bind (sel_evBF f a b) hg
theorem Sel.fillL {α : Type} {id:Nat} {e:Env} {ps:List (Nat × Nat × Arg)} {z:List V} {g:List V→(α → R)→R} (hg:∀ a,Sel (g a)):Sel fun k=>Ev.fillL id e ps z fun a=>g a k:=Sel.bind (sel_fillL ps z) hg
theorem sel_leafEq {id:Nat} (c:Nat) (x y:V):Sel (leafEq id c x y):=by
 match c with
 | 0=>exact Sel.vBool (id:=id) (g:=fun a k=>Ev.vBool id y fun b=>Ev.ifB a (k b) (Ev.ifB b (k false) (k true))) fun a=>Sel.vBool fun b=>Sel.ifB (Sel.ret b) (Sel.ifB (Sel.ret false) (Sel.ret true))
 | 1=>exact Sel.vInt (id:=id) (g:=fun k1 a k=>Ev.vInt id y fun k2 b=>Ev.ifB (Nat.beq k1 k2) (k (Nat.beq a b)) (Ev.no 0)) fun k1 a=>Sel.vInt fun k2 b=>Sel.ifB (Sel.ret _) (Sel.no 0)
 | c+2=>exact Sel.vStr (id:=id) (g:=fun l1 a k=>Ev.vStr id y fun l2 b=>Ev.ifB (Nat.beq l1 l2) (k (Nat.beq a b)) (k false)) fun l1 a=>Sel.vStr fun l2 b=>Sel.ifB (Sel.ret _) (Sel.ret false)
theorem sel_eqCs {id:Nat}:∀ (cls:List Nat) (l m:List V),Sel (eqCs id cls l m)
 | [],l,m=>Or.inl ⟨true,fun _=>rfl⟩
 | c :: cls,[],m=>Or.inr fun k h=>no_ne h
 | c :: cls,a :: l,[]=>Or.inr fun k h=>no_ne h
 | c :: cls,a :: l,b :: m=>Sel.bind (g:=fun r k=>Ev.ifB r (eqCs id cls l m k) (k false)) (sel_leafEq c a b) fun r=>Sel.ifB (sel_eqCs cls l m) (Sel.ret false)
theorem Sel.eqCs {α : Type} {id:Nat} {cls:List Nat} {l m:List V} {g:Bool→(α → R)→R} (hg:∀ a,Sel (g a)):Sel fun k=>Ev.eqCs id cls l m fun a=>g a k:=Sel.bind (sel_eqCs cls l m) hg
theorem sel_pure {P:Program} {nt:Nat} {c:OpE} {id:Nat} {ph:Phi} {e:Env} (hp:pureOp c=true) (H:Heap):Sel fun k:V→R=>evOp c id ph e H fun v _=>k v:=by
 cases c <;> simp only [pureOp,Bool.false_eq_true] at hp
 case mov x=>exact Sel.getA fun v=>Sel.ret v
 case aggEq cls neg x y=>exact Sel.getA fun x=>Sel.vAgg fun l=>Sel.getA fun y=>Sel.vAgg fun m=>Sel.ifB (Sel.ifB (Sel.eqCs fun b=>Sel.ifB (Sel.ifB (Sel.ret _) (Sel.ret _)) (Sel.ret _)) (Sel.no 0)) (Sel.no 0)
 case pick c x y=>exact Sel.getA fun c=>Sel.vBool fun b=>Sel.ifB (Sel.getA fun v=>Sel.ret v) (Sel.getA fun v=>Sel.ret v)
 case build z ps=>exact Sel.fillL fun l=>Sel.ret _
 case nilc x=>
  refine Sel.getA (g:=fun v k=>eNilc (.c v) id ph e H fun v _=>k v) fun v => ?_
  cases v <;> first | exact Sel.ret _ | exact Sel.no 0
 case bin=>exact Sel.getA fun x=>Sel.vInt fun k1 a=>Sel.getA fun y=>Sel.vInt fun k2 b=>Sel.ifB (Sel.ifB (Sel.evBF fun r=>Sel.ret _) (Sel.no 0)) (Sel.no 0)
 case cmp=>exact Sel.getA fun x=>Sel.vInt fun k1 a=>Sel.getA fun y=>Sel.vInt fun k2 b=>Sel.ifB (Sel.ifB (Sel.ifB (Sel.ret _) (Sel.ret _)) (Sel.no 0)) (Sel.no 0)
 case sadd=>exact Sel.getA fun x=>Sel.vStr fun k1 a=>Sel.getA fun y=>Sel.vStr fun k2 b=>Sel.forceN fun l=>Sel.ifB (Sel.forceN fun n=>Sel.ret _) (Sel.no 0)
 case scmp=>exact Sel.getA fun x=>Sel.vStr fun k1 a=>Sel.getA fun y=>Sel.vStr fun k2 b=>Sel.ifB (Sel.ifB (Sel.ifB (Sel.ret _) (Sel.ret _)) (Sel.ret _)) (Sel.ret _)
 case eqv=>exact Sel.getA fun x=>Sel.nilly fun a=>Sel.getA fun y=>Sel.nilly fun b=>Sel.ifB (Sel.ifB (Sel.ifB (Sel.ifB (Sel.no 0) (Sel.ifB (Sel.ret _) (Sel.ret _))) (Sel.ret _)) (Sel.no 0)) (Sel.no 0)
 case lnot=>exact Sel.getA fun x=>Sel.vBool fun b=>Sel.ifB (Sel.ret _) (Sel.ret _)
 case convI src dst mode c x=>
  refine Sel.getA (g:=fun v k=>eConvI src dst mode c (.c v) id ph e H fun v _=>k v) fun v => ?_
  cases mode with
  | zero=>exact Sel.vInt (id:=id) fun k1 a=>Sel.ifB (Sel.forceN fun r=>Sel.ret _) (Sel.no 0)
  | succ m=>exact Sel.vInt (id:=id) fun k1 a=>Sel.ifB (Sel.ifB (Sel.ret _) (Sel.forceN fun r=>Sel.ret _)) (Sel.no 0)
 case mkI=>exact Sel.getA fun v=>Sel.ret _
 case mkF=>exact Sel.getAs fun v=>Sel.ret _
 case slS=>exact Sel.getA fun x=>Sel.vStr fun len n=>Sel.bnd fun h=>Sel.bnd fun l=>Sel.ifB (Sel.ifB (Sel.forceN fun d=>Sel.forceN fun r=>Sel.ret _) (Sel.no 0)) (Sel.no 0)
 case slV size x lo hi mx=>
  refine Sel.getA (g:=fun v k=>eSlV size (.c v) lo hi mx id ph e H fun v _=>k v) fun v => ?_
  cases mx with
  | none=>
   exact Sel.vSliceN (id:=id) (fun b o len cp sz=>by
    cases cp with
    | zero=>exact Sel.bnd fun l=>Sel.bnd fun h=>Sel.ifB (Sel.forceN fun d=>Sel.ifB (Sel.ifB (Sel.forceN fun o'=>Sel.ret _) (Sel.no 0)) (Sel.no 0)) (Sel.no 0)
    | succ q=>exact Sel.bnd fun l=>Sel.bnd fun h=>Sel.ifB (Sel.forceN fun d=>Sel.ifB (Sel.ifB (Sel.ret _) (Sel.forceN fun o'=>Sel.forceN fun c'=>Sel.ret _)) (Sel.no 0)) (Sel.no 0)) (Sel.bnd fun l=>Sel.bnd fun h=>Sel.bnd fun m=>Sel.ifB (Sel.ifB (Sel.ifB (Sel.ret _) (Sel.no 0)) (Sel.no 0)) (Sel.no 0))
  | some m=>
   exact Sel.vSliceN (id:=id) (fun b o len cp sz=>Sel.bnd fun l=>Sel.bnd fun h=>Sel.ifB (Sel.forceN fun d=>Sel.bnd fun m=>Sel.ifB (Sel.ifB (Sel.ifB (Sel.ret _) (Sel.forceN fun o'=>Sel.forceN fun c'=>Sel.ret _)) (Sel.no 0)) (Sel.no 0)) (Sel.no 0)) (Sel.bnd fun l=>Sel.bnd fun h=>Sel.bnd fun m=>Sel.ifB (Sel.ifB (Sel.ifB (Sel.ret _) (Sel.no 0)) (Sel.no 0)) (Sel.no 0))
 case slA=>exact Sel.getA fun x=>Sel.vPtr fun b o=>Sel.bnd fun m=>Sel.bnd fun h=>Sel.bnd fun l=>Sel.ifB (Sel.ifB (Sel.ifB (Sel.forceN fun d=>Sel.ifB (Sel.ret _) (Sel.forceN fun o'=>Sel.forceN fun c'=>Sel.ret _)) (Sel.no 0)) (Sel.no 0)) (Sel.no 0)
 case fadd=>exact Sel.getA fun x=>Sel.vPtr fun b o=>Sel.forceN fun o'=>Sel.ret _
 case fld1=>exact Sel.getA fun x=>Sel.vAgg fun l=>Sel.nth fun v=>Sel.ret _
 case fldA=>exact Sel.getA fun x=>Sel.vAgg fun l=>Sel.dropN fun r=>Sel.takeN fun q=>Sel.ret _
 case ixA=>exact Sel.getA fun x=>Sel.vPtr fun b o=>Sel.idx fun n=>Sel.forceN fun o'=>Sel.ret _
 case ixV=>exact Sel.getA fun x=>Sel.vSlice fun b o _ _ _=>Sel.idx fun n=>Sel.forceN fun o'=>Sel.ret _
 case ixS=>exact Sel.getA fun x=>Sel.vStr fun b o=>Sel.idx fun n=>Sel.forceN fun o'=>Sel.ret _
 case ixG=>exact Sel.getA fun x=>Sel.vAgg fun l=>Sel.idx fun n=>Sel.ifB (Sel.dropN fun r=>Sel.takeN fun q=>Sel.ret _) (Sel.nth fun v=>Sel.ret _)
 case extr=>exact Sel.getA fun x=>Sel.vTup fun l=>Sel.nth fun v=>Sel.ret _
theorem pure_heap {c:OpE} {id:Nat} {ph:Phi} {e:Env} (hp:pureOp c=true) (H H2:Heap) (k:K):evOp c id ph e H k=evOp c id ph e H2 fun v _=>k v H:=by
 cases c <;> simp only [pureOp,Bool.false_eq_true] at hp <;> rfl
theorem pure_any {P:Program} {nt:Nat} {o:Oper} {id:Nat} {ph:Phi} {e:Env} {H:Heap} {k:K} (hph:PhiOK P ph) (hp:pureOp (compOp P nt o)=true) (h:evOp (compOp P nt o) id ph e H k=1):∃ v,(∀ H2,OpS P nt o e H2 v H2)∧k v H=1:=by
 rcases sel_pure (P:=P) (nt:=nt) (id:=id) (ph:=ph) (e:=e) hp H with ⟨v,hv⟩ | hv
 ·have hv':∀ k:V→R,(evOp (compOp P nt o) id ph e H fun v _=>k v)=k v:=hv
  refine ⟨v,fun H2 => ?_, ?_⟩
  ·classical
   have h2:evOp (compOp P nt o) id ph e H2 (fun v' H'=>if v'=v∧H'=H2 then 1 else 0)=1:=by
    rw [pure_heap hp H2 H]
    exact (hv' (fun v'=>if v'=v∧H2=H2 then 1 else 0)).trans (if_pos ⟨rfl,rfl⟩)
   obtain ⟨v',H',h3,h4⟩:=evOp_sound hph h2
   have h4':(if v'=v∧H'=H2 then 1 else 0)=1:=h4
   split at h4'
   ·rename_i h5
    obtain ⟨rfl,rfl⟩:=h5
    exact h3
   ·exact absurd h4' (by decide)
  ·rw [pure_heap hp H H] at h
   exact (hv' (fun v=>k v H)).symm.trans h
 ·rw [pure_heap hp H H] at h
  exact absurd h (hv _)
end Go.Ev
end
section
namespace Go.Ev
open Go.RowKit
def StepOK (P:Program) (nt:Nat) (ops:Array Oper) (iso pur:Bool) (B:Option Nat) (o:Oper) (e:Env) (H:Heap) (v:V) (e':Env) (H':Heap):Prop:=
 ∃ d,dstOf nt o.dst=some d∧e'=psetD d v e ∧
  ((GW nt e ops o false∧v = .tup []∧H'=H) ∨
   (GW nt e ops o true∧pur=true∧H'=H ∧ ∀ H2:Heap,(∀ b,B=some b→H2.get b=H.get b)→OpS P nt o e H2 v H2) ∨
   (GW nt e ops o true∧pur=false∧iso=true∧OpS P nt o e H v H') ∨
   (GW nt e ops o true∧pur=false∧iso=false ∧ ∃ H1 H1':Heap,H1.n=H.n∧(∀ b,H1.get b=H.get b)∧H1.wlo=H.n∧OpS P nt o e H1 v H1'∧H.n≤H1'.wlo∧H'.n=H1'.n∧(∀ b,H'.get b=H1'.get b)∧H'.wlo=H.wlo))
def AlOK (P:Program) (nt:Nat) (e:Env) (o:Oper) (H:Heap) (v:V) (H':Heap):Prop:=∃ (bl:Blk),v = .ptr H.n 0∧NewTo H bl H'∧bl.alive∧bl ≠ .mark ∧ ∀ (m:M) (a:Act),OR m nt e a o → ∃ ob:Obj,(∀ m,BR P m bl ob) ∧
 ∀ (rd:Option Nat) (w:World),o.wpIn (WF rd) 0 P a w (fun a' w'=>a'=a.put o.dst (.pointer (some ⟨w.heap.size,0,none⟩))∧w'=w.alloc ob) (fun _ _ _=>False)
theorem AlOK.ops {P:Program} {nt:Nat} {o:Oper} {e:Env} {H H':Heap} {v:V} (h:AlOK P nt e o H v H'):OpS P nt o e H v H':=fun rd base w0 rho w a hp ho=>by
 obtain ⟨bl,rfl,hN,ha,hm,hx⟩:=h
 obtain ⟨ob,hb,hx⟩:=hx _ a ho
 refine wpIn_lift (hx rd w) fun a' w' hk => ?_
 obtain ⟨rfl,rfl⟩:=hk
 obtain ⟨p1,p2⟩:=hp.alloc (w':=w.alloc ob) (o:=ob) hN.n hN.wlo hN.get hN.oth ha ⟨rfl,rfl,rfl⟩ (by simp) (World.alloc_heap_new w _) (fun j hj=>Below.heap_alloc _ _ _ hj) (hb _)
 exact ⟨_,rfl,_,by simp only [VR];exact ⟨_,rfl,by rw [hN.n];omega,fun _=>by simp⟩,p1,p2⟩
theorem al_aggL {P:Program} {op:BinOp} {t:TypeId} {c:List Nat} {x y:Arg}:isAl (compAggL P op t c x y)=false:=by
 unfold compAggL
 (repeat' split) <;> rfl
theorem al_eqv {k:Nat} {op:BinOp} {x y:Arg}:isAl (eqvOp k op x y)=false:=by
 unfold eqvOp
 (repeat' split) <;> rfl
theorem al_bin {P:Program} {op:BinOp} {xt yt:TypeId} {x y:Arg}:isAl (compBin P op xt yt x y)=false:=by
 unfold compBin compAggEq compArrEq
 (repeat' split) <;> first | rfl | exact al_eqv | exact al_aggL
theorem al_conv {k k':IntKind} {x:Arg}:isAl (convOp k k' x)=false:=by
 unfold convOp
 (repeat' split) <;> rfl
theorem al_builtin {P:Program} {nt:Nat} {b:Builtin} {as:List Operand} {ts:List TypeId}:isAl (compBuiltin P nt b as ts)=false:=by
 unfold compBuiltin
 (repeat' split) <;> rfl
theorem al_ok {P:Program} {nt:Nat} {o:Oper} {id:Nat} {ph:Phi} {e:Env} {H:Heap} {k:K} (hal:isAl (compOp P nt o)=true) (h:evOp (compOp P nt o) id ph e H k=1):∃ v H',AlOK P nt e o H v H'∧k v H'=1:=by
 have hop:∃ t,o.op = .alloc t:=by
  unfold compOp at hal
  split at hal <;> first
   | exact ⟨_,by assumption⟩
   | (exfalso;revert hal; (repeat' split) <;> first | (rw [al_bin];simp;done) | (rw [al_conv];simp;done) | (rw [al_builtin];simp;done) | simp [isAl])
 obtain ⟨t,hop⟩:=hop
 simp only [compOp,hop] at h
 have hnd:∀ c,o.op ≠ .defer c:=by simp [hop]
 have key:∀ (z:List V) (bl:Blk),zeroT P t=some z→rowOf bl=some z→(∀ len n,bl = .bytes len n→n<256 ^ len)→bl ≠ .mark→(hNew H bl fun n H=>k (.ptr n 0) H)=1 → ∃ v H',AlOK P nt e o H v H'∧k v H'=1:=by
  intro z bl hz hrow hcan hmk h'
  obtain ⟨H',h1,h2⟩:=hNew_ok h'
  obtain ⟨i,zv,hi,hzv,hvr,hone⟩:=zeroT_ok hz
  refine ⟨_,H',⟨bl,rfl,h2,(rowOf_alive hrow).1,hmk,fun m a _=>⟨.cells zv.cells t,fun m=>BR_of_row hrow hcan (RowR.exact (hvr _) hone),fun rd w=>⟨about_any P o a w rd, ?_⟩⟩⟩,h1⟩
  rw [semAt_eq hnd]
  have hex:(execOp a.eval o).run P w = .ok (.value (.pointer (some ⟨w.heap.size,0,none⟩))) (w.alloc (.cells zv.cells t)):=by
   simp [execOp,hop,Instr.alloc,zeroValue,typeInfo,hi,hzv,newVar,newRow]
  rw [hex]
  exact ⟨rfl,rfl⟩
 split at h
 ·rename_i z n el hz hu
  split at h
  ·rename_i hc
   simp only [Bool.and_eq_true,beq_iff_eq] at hc
   have hzz:=z8_ok hc.1
   rw [hc.2] at hzz
   exact key z (.bytes n 0) hz (by rw [hzz];rfl) (fun len m e=>by cases e;exact Nat.pow_pos (by decide)) (by simp) h
  ·exact key z (.cells z) hz rfl (fun len m e=>by cases e) (by simp) h
 ·exact key _ (.cells _) (by assumption) rfl (fun len m e=>by cases e) (by simp) h
 ·exact (no_ne h).elim
def ncons {α : Type} (a : α) (f:Nat → α):Nat → α
 | 0=>a
 | j+1=>f j
theorem evDreg_ok {P:Program} {nt:Nat} {ph:Phi} {ops:Array Oper} {base:Nat} {pl al:List Bool} {bf:Array Nat} (hph:PhiOK P ph):∀ (l:List Oper) (i:Nat) (r:List OpW) (e:Env) (H:Heap) (k:Env→Heap→R),compRegG P nt base ops pl al bf l i=some r→evDreg ph r e H k=1 →
  ∃ (E:Nat→Env) (Hh:Nat→Heap) (Vv:Nat→V),E 0=e∧Hh 0=H∧(∀ j o,l[j]? = some o→StepOK P nt ops (isolatedA pl al bf (i+j)) (pureOp (compOp P nt o)) none o (E j) (Hh j) (Vv j) (E (j+1)) (Hh (j+1)))∧(∀ j o,l[j]? = some o→isAl (compOp P nt o)=true→isolatedA pl al bf (i+j)=false→(GW nt (E j) ops o false∧Vv j = .tup []∧Hh (j+1)=Hh j)∨AlOK P nt (E j) o (Hh j) (Vv j) (Hh (j+1)))∧k (E l.length) (Hh l.length)=1
 | [],i,r,e,H,k,hc,h=>by
  simp only [compRegG,Option.some.injEq] at hc
  subst hc
  exact ⟨fun _=>e,fun _=>H,fun _ => .nilp,rfl,rfl,fun j o hj=>by simp at hj,fun j o hj=>by simp at hj,h⟩
 | o :: l,i,r,e,H,k,hc,h=>by
  simp only [compRegG] at hc
  split at hc
  ·rename_i d g r' hd hg hr
   cases hc
   have fin:∀ (v:V) (H1:Heap),StepOK P nt ops (isolatedA pl al bf i) (pureOp (compOp P nt o)) none o e H v (psetD d v e) H1→(isAl (compOp P nt o)=true→isolatedA pl al bf i=false→(GW nt e ops o false∧v = .tup []∧H1=H)∨AlOK P nt e o H v H1)→evDreg ph r' (psetD d v e) H1 k=1 → ∃ (E:Nat→Env) (Hh:Nat→Heap) (Vv:Nat→V),E 0=e∧Hh 0=H∧(∀ j o',(o :: l)[j]? = some o'→StepOK P nt ops (isolatedA pl al bf (i+j)) (pureOp (compOp P nt o')) none o' (E j) (Hh j) (Vv j) (E (j+1)) (Hh (j+1)))∧(∀ j o',(o :: l)[j]? = some o'→isAl (compOp P nt o')=true→isolatedA pl al bf (i+j)=false→(GW nt (E j) ops o' false∧Vv j = .tup []∧Hh (j+1)=Hh j)∨AlOK P nt (E j) o' (Hh j) (Vv j) (Hh (j+1)))∧k (E (o :: l).length) (Hh (o :: l).length)=1:=fun v H1 hs ha hev=>by
    obtain ⟨E,Hh,Vv,h1,h2,h3,h5,h4⟩:=evDreg_ok hph l (i+1) r' _ _ k hr hev
    refine ⟨ncons e E,ncons H Hh,ncons v Vv,rfl,rfl,fun j o' hj => ?_,fun j o' hj q1 q2 => ?_,h4⟩
    rotate_left
    ·cases j with
     | zero=>
      simp only [List.getElem?_cons_zero,Option.some.injEq] at hj
      subst hj
      show (GW nt e ops o false∧v = .tup []∧Hh 0=H)∨AlOK P nt e o H v (Hh 0)
      rw [h2]
      exact ha q1 q2
     | succ j=>
      have:=h5 j o' (by simpa using hj) q1
      rw [show i+1+j=i+(j+1) by omega] at this
      exact this q2
    cases j with
    | zero=>
     simp only [List.getElem?_cons_zero,Option.some.injEq] at hj
     subst hj
     show StepOK P nt ops (isolatedA pl al bf (i+0)) _ none o e H v (E 0) (Hh 0)
     rw [h1,h2]
     exact hs
    | succ j=>
     have:=h3 j o' (by simpa using hj)
     rw [show i+1+j=i+(j+1) by omega] at this
     exact this
   have h':wantG g e (Nat.rec (motive:=fun _=>R) (evOp (compOp P nt o) (base+i) ph e H fun v H'=>setD d v e fun e'=>evDreg ph r' e' H' k) (fun _ _=>Heap.rec (motive:=fun _=>R) (fun n wlo t=>evOp (compOp P nt o) (base+i) ph e (.mk n n t) fun v H'=>Heap.rec (motive:=fun _=>R) (fun n' wlo' t'=>ifB (Nat.ble n wlo') (setD d v e fun e'=>evDreg ph r' e' (.mk n' wlo t') k) (no 0)) H') H) (if (pureOp (compOp P nt o) || isolatedA pl al bf i)=true then 0 else 1)) (setD d (.tup []) e fun e'=>evDreg ph r' e' H k)=1:=h
   rcases wantG_or hg h' with ⟨h1,h2⟩ | ⟨h1,h2⟩
   ·by_cases hpu:pureOp (compOp P nt o)=true
    ·rw [if_pos (by simp [hpu])] at h1
     obtain ⟨v,h3,h4⟩:=pure_any hph hpu (show evOp (compOp P nt o) (base+i) ph e H (fun v H'=>setD d v e fun e'=>evDreg ph r' e' H' k)=1 from h1)
     have h4':setD d v e (fun e'=>evDreg ph r' e' H k)=1:=h4
     rw [setD_eq] at h4'
     exact fin v H ⟨d,hd,rfl,Or.inr (Or.inl ⟨h2,hpu,rfl,fun H2 _=>h3 H2⟩)⟩ (fun q=>absurd q (by cases hcc:compOp P nt o <;> rw [hcc] at hpu <;> simp [isAl,pureOp] at hpu ⊢)) h4'
    ·by_cases his:isolatedA pl al bf i=true
     ·rw [if_pos (by simp [his])] at h1
      obtain ⟨v,H1,h3,h4⟩:=evOp_sound hph (show evOp (compOp P nt o) (base+i) ph e H (fun v H'=>setD d v e fun e'=>evDreg ph r' e' H' k)=1 from h1)
      have h4':setD d v e (fun e'=>evDreg ph r' e' H1 k)=1:=h4
      rw [setD_eq] at h4'
      exact fin v H1 ⟨d,hd,rfl,Or.inr (Or.inr (Or.inl ⟨h2,by simpa using hpu,his,h3⟩))⟩ (fun _ q=>absurd (his.symm.trans q) (by simp)) h4'
     ·rw [if_neg (by simp [hpu,his])] at h1
      cases H with
      | mk n wlo t=>
       have h1':evOp (compOp P nt o) (base+i) ph e (.mk n n t) (fun v H'=>Heap.rec (motive:=fun _=>R) (fun n' wlo' t'=>ifB (Nat.ble n wlo') (setD d v e fun e'=>evDreg ph r' e' (.mk n' wlo t') k) (no 0)) H')=1:=h1
       by_cases hal:isAl (compOp P nt o)=true
       ·obtain ⟨v,H1,h3,h4⟩:=al_ok hal h1'
        cases H1 with
        | mk n' wlo' t'=>
         have h4':ifB (Nat.ble n wlo') (setD d v e fun e'=>evDreg ph r' e' (.mk n' wlo t') k) (no 0)=1:=h4
         obtain ⟨h5,h6⟩:=ifB_no h4'
         rw [setD_eq] at h6
         obtain ⟨bl,g1,g2,g3⟩:=h3
         exact fin v (.mk n' wlo t') ⟨d,hd,rfl,Or.inr (Or.inr (Or.inr ⟨h2,by simpa using hpu,by simpa using his, .mk n n t, .mk n' wlo' t',rfl,fun _=>rfl,rfl,AlOK.ops ⟨bl,g1,g2,g3⟩,ble_of h5,rfl,fun _=>rfl,rfl⟩))⟩ (fun _ _=>Or.inr ⟨bl,g1,⟨g2.n,rfl,g2.get,g2.oth⟩,g3⟩) h6
       ·obtain ⟨v,H1,h3,h4⟩:=evOp_sound hph h1'
        cases H1 with
        | mk n' wlo' t'=>
         have h4':ifB (Nat.ble n wlo') (setD d v e fun e'=>evDreg ph r' e' (.mk n' wlo t') k) (no 0)=1:=h4
         obtain ⟨h5,h6⟩:=ifB_no h4'
         rw [setD_eq] at h6
         exact fin v (.mk n' wlo t') ⟨d,hd,rfl,Or.inr (Or.inr (Or.inr ⟨h2,by simpa using hpu,by simpa using his, .mk n n t, .mk n' wlo' t',rfl,fun _=>rfl,rfl,h3,ble_of h5,rfl,fun _=>rfl,rfl⟩))⟩ (fun q=>absurd q hal) h6
   ·rw [setD_eq] at h1
    exact fin _ H ⟨d,hd,rfl,Or.inl ⟨h2,rfl,rfl⟩⟩ (fun _ _=>Or.inl ⟨h2,rfl,rfl⟩) h1
  ·cases hc
end Go.Ev
end
section
namespace Go.Ev
open Go.RowKit
section
variable {ops:Array Oper}
def befStep (acc:Array Nat) (o:Oper):Array Nat:=acc.push (o.after.foldl (fun s e=>if Region.binds .any e then s ||| 2 ^ e.on ||| acc.getD e.on 0 else s) 0)
theorem edge_fold (acc:Array Nat) (i:Nat):∀ (l:List Edge) (s:Nat),(l.foldl (fun s e=>if Region.binds .any e then s ||| 2 ^ e.on ||| acc.getD e.on 0 else s) s).testBit i=true→s.testBit i=true ∨ ∃ e ∈ l,Region.binds .any e=true∧(i=e.on∨(acc.getD e.on 0).testBit i=true)
 | [],s,h=>Or.inl h
 | e :: l,s,h=>by
  rw [List.foldl_cons] at h
  rcases edge_fold acc i l _ h with h | ⟨e',h1,h2⟩
  ·split at h
   ·rename_i hb
    rw [Nat.testBit_or,Nat.testBit_or,Bool.or_eq_true,Bool.or_eq_true] at h
    rcases h with (h | h) | h
    ·exact Or.inl h
    ·rw [Nat.testBit_two_pow] at h
     exact Or.inr ⟨e,List.mem_cons_self,hb,Or.inl (by simp at h;exact h.symm)⟩
    ·exact Or.inr ⟨e,List.mem_cons_self,hb,Or.inr h⟩
   ·exact Or.inl h
  ·exact Or.inr ⟨e',List.mem_cons_of_mem _ h1,h2⟩
theorem before_list:∀ (l:List Oper) (acc:Array Nat),(l.foldl befStep acc).size=acc.size+l.length ∧ ∀ j,j<acc.size→(l.foldl befStep acc)[j]? = acc[j]?
 | [],acc=>⟨rfl,fun _ _=>rfl⟩
 | o :: l,acc=>by
  obtain ⟨h1,h2⟩:=before_list l (befStep acc o)
  have hs:(befStep acc o).size=acc.size+1:=by simp [befStep]
  rw [List.foldl_cons]
  refine ⟨by rw [h1,hs];simp;omega,fun j hj => ?_⟩
  rw [h2 j (by omega)]
  unfold befStep
  rw [Array.getElem?_push,if_neg (by omega)]
theorem before_spec_list:∀ (l:List Oper) (acc:Array Nat) (j i:Nat) (o:Oper),l[j]? = some o→((l.foldl befStep acc).getD (acc.size+j) 0).testBit i=true →
  ∃ e ∈ o.after.toList,Region.binds .any e=true∧(i=e.on∨(e.on<acc.size+j∧((l.foldl befStep acc).getD e.on 0).testBit i=true))
 | [],acc,j,i,o,hj,_=>by simp at hj
 | o' :: l,acc,0,i,o,hj,h=>by
  simp only [List.getElem?_cons_zero,Option.some.injEq] at hj
  subst hj
  rw [List.foldl_cons] at h ⊢
  obtain ⟨h1,h2⟩:=before_list l (befStep acc o')
  have hs:(befStep acc o').size=acc.size+1:=by simp [befStep]
  have hg:(l.foldl befStep (befStep acc o'))[acc.size]? = (befStep acc o')[acc.size]?:=h2 _ (by omega)
  have hv:(befStep acc o')[acc.size]? = some (o'.after.foldl (fun s e=>if Region.binds .any e then s ||| 2 ^ e.on ||| acc.getD e.on 0 else s) 0):=by simp [befStep]
  rw [Nat.add_zero,Array.getD_eq_getD_getElem?,hg,hv,Option.getD_some,← Array.foldl_toList] at h
  rcases edge_fold acc i _ _ h with h | ⟨e,h3,h4,h5⟩
  ·simp at h
  ·refine ⟨e,h3,h4,h5.imp id fun h6 => ?_⟩
   have hlt:e.on<acc.size:=by
    rcases Nat.lt_or_ge e.on acc.size with h | h
    ·exact h
    ·rw [Array.getD_eq_getD_getElem?,Array.getElem?_eq_none h] at h6;simp at h6
   refine ⟨by omega, ?_⟩
   rw [Array.getD_eq_getD_getElem?,h2 _ (by omega)]
   unfold befStep
   rw [Array.getElem?_push,if_neg (by omega),← Array.getD_eq_getD_getElem?]
   exact h6
 | o' :: l,acc,j+1,i,o,hj,h=>by
  rw [List.foldl_cons] at h ⊢
  have hs:(befStep acc o').size=acc.size+1:=by simp [befStep]
  have:=before_spec_list l (befStep acc o') j i o (by simpa using hj)
  rw [hs,show acc.size+1+j=acc.size+(j+1) by omega] at this
  exact this h
theorem before_eq:Region.before ops=ops.toList.foldl befStep #[]:=by
 unfold Region.before
 rw [← Array.foldl_toList]
 rfl
theorem before_spec {j i:Nat} (h:((Region.before ops).getD j 0).testBit i=true):∃ o,ops[j]? = some o ∧ ∃ e ∈ o.after.toList,Region.binds .any e=true∧(i=e.on∨(e.on<j∧((Region.before ops).getD e.on 0).testBit i=true)):=by
 rw [before_eq] at h ⊢
 obtain ⟨h1,_⟩:=before_list ops.toList #[]
 have hj:j<ops.toList.length:=by
  rcases Nat.lt_or_ge j (ops.toList.foldl befStep #[]).size with h2 | h2
  ·rw [h1] at h2;simpa using h2
  ·rw [Array.getD_eq_getD_getElem?,Array.getElem?_eq_none h2] at h;simp at h
 have ho:ops.toList[j]? = some ops.toList[j]:=List.getElem?_eq_getElem hj
 refine ⟨_,by rw [← Array.getElem?_toList];exact ho, ?_⟩
 have:=before_spec_list ops.toList #[] j i _ ho
 simp only [List.size_toArray,List.length_nil,Nat.zero_add] at this
 exact this h
def Edges (ops:Array Oper):Prop:=∀ j o,ops[j]? = some o → ∀ e ∈ o.after.toList,Region.binds .any e=true→e.on<j
theorem edges_of (h:edgesOK ops=true):Edges ops:=fun j o hj e he hb=>by
 unfold edgesOK at h
 rw [List.all_eq_true] at h
 have h1:=h (o,j) (List.mem_zipIdx_iff_getElem?.2 (by simpa using hj))
 rw [Array.all_eq_true_iff_forall_mem] at h1
 have h2:=h1 e (by simpa using he)
 simpa [hb] using h2
theorem before_lt (hE:Edges ops):∀ (j i:Nat),((Region.before ops).getD j 0).testBit i=true→i<j:=by
 intro j
 induction j using Nat.strongRecOn with
 | _ j ih=>
  intro i h
  obtain ⟨o,h1,e,h2,h3,h4⟩:=before_spec h
  have h5:=hE j o h1 e h2 h3
  rcases h4 with rfl | ⟨_,h6⟩
  ·exact h5
  ·have:=ih e.on h5 i h6
   omega
def Been (listed:Array Bool) (i:Nat):Prop:=listed.getD i false=true
def Closed (ops:Array Oper) (listed:Array Bool):Prop:=∀ j,Been listed j → ∀ o,ops[j]? = some o → ∀ e ∈ o.after.toList,Region.binds .any e=true→Been listed e.on
theorem before_been {listed:Array Bool} (hE:Edges ops) (hC:Closed ops listed):∀ (j i:Nat),(Been listed j ∨ ∀ o,ops[j]? = some o → ∀ e ∈ o.after.toList,Region.binds .any e=true→Been listed e.on)→((Region.before ops).getD j 0).testBit i=true→Been listed i:=by
 intro j
 induction j using Nat.strongRecOn with
 | _ j ih=>
  intro i hj h
  obtain ⟨o,h1,e,h2,h3,h4⟩:=before_spec h
  have h5:Been listed e.on:=hj.elim (fun hb=>hC j hb o h1 e h2 h3) fun hr=>hr o h1 e h2 h3
  rcases h4 with rfl | ⟨h6,h7⟩
  ·exact h5
  ·exact ih e.on h6 i (Or.inl h5) h7
theorem been_set {listed:Array Bool} {i:Nat} (hi:i<listed.size) {j:Nat}:Been (listed.setIfInBounds i true) j↔j=i∨Been listed j:=by
 unfold Been
 simp only [Array.getD_eq_getD_getElem?]
 by_cases h:i=j
 ·subst h
  rw [Array.getElem?_setIfInBounds_self_of_lt hi]
  simp
 ·rw [Array.getElem?_setIfInBounds_ne h]
  simp [Ne.symm h]
theorem apart_of {bf:Array Nat} (h:apartOK ops bf=true) {i j:Nat} {oi oj:Oper} (hi:ops[i]? = some oi) (hj:ops[j]? = some oj) (hne:i≠j) {d:Tmp} (hd:oi.dst=some d) (hm:d ∈ namesOf ops oj):if i<j then (bf.getD j 0).testBit i=true else (bf.getD i 0).testBit j=true:=by
 unfold apartOK at h
 rw [List.all_eq_true] at h
 have h1:=h (oi,i) (List.mem_zipIdx_iff_getElem?.2 (by simpa using hi))
 rw [List.all_eq_true] at h1
 have h2:=h1 (oj,j) (List.mem_zipIdx_iff_getElem?.2 (by simpa using hj))
 simp only [hd,Bool.or_eq_true,beq_iff_eq,Bool.not_eq_true',hne,false_or] at h2
 rcases h2 with h2 | h2
 ·have:(namesOf ops oj).contains d=true:=by simpa using hm
  rw [this] at h2;cases h2
 ·split
  ·rename_i hlt;simpa [hlt] using h2
  ·rename_i hlt;simpa [hlt] using h2
end
def envS (D:Nat→Option Slot) (Vv:Nat→V) (e0:Env) (S:Nat→Bool):Nat→Env
 | 0=>e0
 | k+1=>if S k then psetD (D k) (Vv k) (envS D Vv e0 S k) else envS D Vv e0 S k
theorem pget_psetD {s:Slot} {d:Option Slot} {v:V} {e:Env}:pget s (psetD d v e)=if d=some s then v else pget s e:=by
 cases d with
 | none=>simp [psetD]
 | some d=>
  show pget s (pset d v e)=_
  rw [pget_pset]
  by_cases h:s=d
  ·subst h;simp
  ·rw [if_neg h,if_neg (by simp;exact fun e=>h e.symm)]
theorem envS_at {D:Nat→Option Slot} {Vv:Nat→V} {E:Nat→Env} {S:Nat→Bool} {n i:Nat} (hi:i≤n) (hE:∀ k,k<n→E (k+1)=psetD (D k) (Vv k) (E k)) {s:Slot} (h:∀ k,k<n→D k=some s→(S k=true↔k<i)):pget s (envS D Vv (E 0) S n)=pget s (E i):=by
 have h1:∀ m,m≤i→pget s (envS D Vv (E 0) S m)=pget s (E m):=by
  intro m
  induction m with
  | zero=>intro _;rfl
  | succ m ih=>
   intro hm
   rw [hE m (by omega),pget_psetD]
   simp only [envS]
   by_cases hd:D m=some s
   ·rw [if_pos hd,if_pos ((h m (by omega) hd).2 (by omega)),pget_psetD,if_pos hd]
   ·rw [if_neg hd]
    split
    ·rw [pget_psetD,if_neg hd];exact ih (by omega)
    ·exact ih (by omega)
 have h2:∀ m,i≤m→m≤n→pget s (envS D Vv (E 0) S m)=pget s (E i):=by
  intro m
  induction m with
  | zero=>
   intro h3 _
   have:i=0:=by omega
   subst this
   rfl
  | succ m ih=>
   intro h3 h4
   by_cases h5:i=m+1
   ·subst h5;exact h1 _ (Nat.le_refl _)
   ·simp only [envS]
    split
    ·rename_i hs
     rw [pget_psetD]
     by_cases hd:D m=some s
     ·have:=(h m (by omega) hd).1 hs;omega
     ·rw [if_neg hd];exact ih (by omega) (by omega)
    ·exact ih (by omega) (by omega)
 exact h2 n hi (Nat.le_refl _)
theorem envS_put {D:Nat→Option Slot} {Vv:Nat→V} {e0:Env} {S S':Nat→Bool} {n i:Nat} (hi:i<n) (h0:S i=false) (h1:∀ k,S' k=true↔k=i∨S k=true) (h:∀ k,k<n→i<k→S k=true → ∀ s,D k=some s→D i≠some s) (s:Slot) :
  pget s (envS D Vv e0 S' n)=pget s (psetD (D i) (Vv i) (envS D Vv e0 S n)):=by
 have hS:∀ k,k≠i→S' k=S k:=fun k hk=>by
  have:=h1 k
  cases h2:S k <;> cases h3:S' k <;> simp [h2,h3,hk] at this ⊢
 have g1:∀ m,m≤i→envS D Vv e0 S' m=envS D Vv e0 S m:=by
  intro m
  induction m with
  | zero=>intro _;rfl
  | succ m ih=>intro hm;simp only [envS,hS m (by omega),ih (by omega)]
 have g2:∀ m,i<m→m≤n→pget s (envS D Vv e0 S' m)=pget s (psetD (D i) (Vv i) (envS D Vv e0 S m)):=by
  intro m
  induction m with
  | zero=>intro h _;omega
  | succ m ih=>
   intro h3 h4
   by_cases h5:m=i
   ·subst h5
    have hs:S' m=true:=(h1 m).2 (Or.inl rfl)
    simp only [envS,hs,if_true,h0,Bool.false_eq_true,if_false,g1 m (Nat.le_refl _)]
   ·have ih:=ih (by omega) (by omega)
    simp only [envS,hS m h5]
    split
    ·rename_i hs
     rw [pget_psetD,ih,pget_psetD,pget_psetD,pget_psetD]
     by_cases hd:D m=some s
     ·rw [if_pos hd,if_neg (h m (by omega) (by omega) hs s hd),if_pos hd]
     ·rw [if_neg hd,if_neg hd]
    ·exact ih
 exact g2 n hi (Nat.le_refl _)
theorem envS_none {D:Nat→Option Slot} {Vv:Nat→V} {e0:Env} {S:Nat→Bool} (h:∀ k,S k=false):∀ n,envS D Vv e0 S n=e0
 | 0=>rfl
 | n+1=>by simp only [envS,h,Bool.false_eq_true,if_false];exact envS_none h n
end Go.Ev
end
section
namespace Go.Ev
open Go.RowKit
def SelP {α : Type} (Q : α → Prop) (f:(α → R)→R):Prop:=(∃ a,Q a ∧ ∀ k,f k=k a) ∨ ∀ k,f k≠1
section
variable {α β : Type} {id:Nat} {Q : α → Prop}
theorem SelP.ret {a : α} (h:Q a):SelP Q fun k=>k a:=Or.inl ⟨a,h,fun _=>rfl⟩
theorem SelP.no (c:Nat):SelP Q fun _ : α → R=>no c:=Or.inr fun k h=>no_ne h
theorem SelP.bind {f:(β → R)→R} {g : β → (α → R)→R} (h:Sel f) (hg:∀ b,SelP Q (g b)):SelP Q fun k=>f fun b=>g b k:=by
 rcases h with ⟨b,hb⟩ | h
 ·rcases hg b with ⟨a,hq,ha⟩ | h
  ·exact Or.inl ⟨a,hq,fun k=>(hb _).trans (ha k)⟩
  ·exact Or.inr fun k=>by show f _≠1;rw [hb];exact h k
 ·exact Or.inr fun k=>h _
theorem SelP.bindP {S : β → Prop} {f:(β → R)→R} {g : β → (α → R)→R} (h:SelP S f) (hg:∀ b,S b→SelP Q (g b)):SelP Q fun k=>f fun b=>g b k:=by
 rcases h with ⟨b,hs,hb⟩ | h
 ·rcases hg b hs with ⟨a,hq,ha⟩ | h
  ·exact Or.inl ⟨a,hq,fun k=>(hb _).trans (ha k)⟩
  ·exact Or.inr fun k=>by show f _≠1;rw [hb];exact h k
 ·exact Or.inr fun k=>h _
theorem SelP.ifB {b:Bool} {f g:(α → R)→R} (hf:SelP Q f) (hg:SelP Q g):SelP Q fun k=>Ev.ifB b (f k) (g k):=by
 cases b
 ·exact hg
 ·exact hf
theorem SelP.getA {a:Arg} {e:Env} {g:V→(α → R)→R} (hg:SelP Q (g (pgetA a e))):SelP Q fun k=>Ev.getA a e fun b=>g b k:=by
 simp only [getA_eq];exact hg
theorem SelP.forceN {n:Nat} {g:Nat→(α → R)→R} (hg:∀ b,SelP Q (g b)):SelP Q fun k=>Ev.forceN n fun b=>g b k:=by
 simp only [forceN_eq];exact hg _
theorem SelP.get {f:(α → R)→R} (h:SelP Q f) {k : α → R} (h1:f k=1):∃ a,Q a∧k a=1 ∧ ∀ k',f k'=k' a:=by
 rcases h with ⟨a,hq,ha⟩ | h
 ·exact ⟨a,hq,(ha k).symm.trans h1,ha⟩
 ·exact absurd h1 (h k)
end
def Fr (ob:Option Nat) (H H':Heap):Prop:=∀ b,b<H.n→ob≠some b→H'.get b=H.get b
theorem ht_set (x:Blk):∀ (t:HT) (k:Nat),SelP (fun t':HT=>t'.get k=x ∧ ∀ j,j≠k→t'.get j=t.get j) (fun c=>t.set x k c):=by
 intro t k
 by_cases h:∃ c:HT→R,t.set x k c=1
 ·obtain ⟨c,h⟩:=h
  have key:∀ (t:HT) (k:Nat) (c:HT→R),t.set x k c=1 → ∃ t',∀ c',t.set x k c'=c' t':=by
   intro t
   induction t with
   | e=>
    intro k c h
    cases k with
    | zero=>exact ⟨_,fun c'=>rfl⟩
    | succ k=>exact (no_ne h).elim
   | n u l r ihl ihr=>
    intro k c h
    cases k with
    | zero=>exact ⟨_,fun c'=>rfl⟩
    | succ k=>
     have e:∀ c',HT.set x (.n u l r) (k+1) c'=Nat.rec (motive:=fun _=>R) (l.set x (k / 2) fun l'=>c' (.n u l' r)) (fun _ _=>r.set x (k / 2) fun r'=>c' (.n u l r')) (k % 2):=fun c'=>rfl
     rw [e] at h
     rcases (by omega:k % 2=0∨k % 2=1) with hk | hk
     ·rw [hk] at h
      obtain ⟨t',ht⟩:=ihl _ _ h
      exact ⟨_,fun c'=>by rw [e,hk];exact ht _⟩
     ·rw [hk] at h
      obtain ⟨t',ht⟩:=ihr _ _ h
      exact ⟨_,fun c'=>by rw [e,hk];exact ht _⟩
  obtain ⟨t',ht⟩:=key t k c h
  have h1:t.set x k (fun _=>1)=1:=by rw [ht]
  obtain ⟨t2,_,h3,h4⟩:=HT.set_ok t k (fun q=>open Classical in if q=t' then 1 else 0) (by rw [ht];simp)
  have:t2=t':=by
   by_cases h5:t2=t'
   ·exact h5
   ·rename_i h6;simp [h5] at h6
  subst this
  exact Or.inl ⟨t2,⟨h3,h4⟩,ht⟩
 ·exact Or.inr fun c hc=>h ⟨c,hc⟩
theorem sel_hSet {id:Nat} (H:Heap) (b:Nat) (x:Blk):SelP (fun H'=>Fr (some b) H H'∧H'.n=H.n) (fun k=>hSet id H b x k):=by
 cases H with
 | mk n wlo t=>
  have e:∀ k,hSet id (.mk n wlo t) b x k=Ev.ifB (Nat.blt b n) (HT.set x t b fun t'=>Ev.ifB (Nat.ble wlo b) (k (.mk n wlo t')) (k (.mk n b t'))) (no 0):=fun _=>rfl
  simp only [e]
  refine SelP.ifB (SelP.bindP (ht_set x t b) fun t' ht => ?_) (SelP.no 0)
  refine SelP.ifB (SelP.ret ⟨fun b' hb hne => ?_,rfl⟩) (SelP.ret ⟨fun b' hb hne => ?_,rfl⟩)
  ·exact ht.2 b' fun h=>hne (by rw [h])
  ·exact ht.2 b' fun h=>hne (by rw [h])
theorem sel_hNew (H:Heap) (x:Blk):SelP (fun p:Nat × Heap=>Fr none H p.2∧H.n≤p.2.n) (fun k=>hNew H x fun n H'=>k (n,H')):=by
 cases H with
 | mk n wlo t=>
  have e:∀ k:Nat × Heap→R,(hNew (.mk n wlo t) x fun n H'=>k (n,H'))=HT.set x t n fun t'=>Ev.forceN (Nat.succ n) fun n'=>k (n, .mk n' wlo t'):=fun _=>rfl
  simp only [e]
  refine SelP.bindP (ht_set x t n) fun t' ht => ?_
  simp only [forceN_eq]
  refine SelP.ret ⟨fun b hb _=>ht.2 b ?_,Nat.le_succ n⟩
  have:b<n:=hb
  omega
theorem Fr.trans {ob:Option Nat} {H H1 H2:Heap} (h:Fr ob H H1) (k:Fr none H1 H2) (hn:H.n≤H1.n):Fr ob H H2:=fun b hb hne=>(k b (Nat.lt_of_lt_of_le hb hn) (by simp)).trans (h b hb hne)
theorem Fr.any {ob:Option Nat} {H H1:Heap} (h:Fr none H H1):Fr ob H H1:=fun b hb _=>h b hb (by simp)
section
variable {id:Nat} {α : Type}
theorem sel_allOne (l:List V):(∀ k,allOne id l k=k) ∨ ∀ k,allOne id l k≠1:=by
 induction l with
 | nil=>exact Or.inl fun k=>rfl
 | cons v l ih=>
  have e:∀ k,allOne id (v :: l) k=isOne id v (allOne id l k):=fun _=>rfl
  rcases ih with ih | ih
  ·cases v <;> first | exact Or.inl fun k=>by rw [e];exact ih k | exact Or.inr fun k h=>no_ne h
  ·refine Or.inr fun k h => ?_
   rw [e] at h
   exact ih k (isOne_ok h).2
theorem SelP.allOne {Q : α → Prop} {l:List V} {f:(α → R)→R} (hf:SelP Q f):SelP Q fun k=>Ev.allOne id l (f k):=by
 rcases sel_allOne (id:=id) l with h | h
 ·simp only [h];exact hf
 ·exact Or.inr fun k=>h _
theorem sel_isOne (v:V):(∀ k,isOne id v k=k) ∨ ∀ k,isOne id v k≠1:=by
 cases v <;> first | exact Or.inl fun k=>rfl | exact Or.inr fun k h=>no_ne h
theorem SelP.isOne {Q : α → Prop} {v:V} {f:(α → R)→R} (hf:SelP Q f):SelP Q fun k=>Ev.isOne id v (f k):=by
 rcases sel_isOne (id:=id) v with h | h
 ·simp only [h];exact hf
 ·exact Or.inr fun k=>h _
theorem sel_packB:∀ (l:List V),Sel (fun k:Nat × Nat→R=>packB id l fun a b=>k (a,b))
 | []=>Or.inl ⟨(0,0),fun _=>rfl⟩
 | v :: l=>by
  have e:∀ k:Nat × Nat→R,(packB id (v :: l) fun a b=>k (a,b))=vInt id v fun kd x=>Ev.ifB (Nat.beq kd 4) (packB id l fun len n=>Ev.forceN (Nat.add x (Nat.mul 256 n)) fun n'=>Ev.forceN (Nat.succ len) fun len'=>k (len',n')) (no 0):=fun _=>rfl
  simp only [e]
  refine Sel.vInt fun kd x=>Sel.ifB ?_ (Sel.no 0)
  exact Sel.bind (f:=fun k:Nat × Nat→R=>packB id l fun a b=>k (a,b)) (g:=fun p k=>Ev.forceN (Nat.add x (Nat.mul 256 p.2)) fun n'=>Ev.forceN (Nat.succ p.1) fun len'=>k (len',n')) (sel_packB l) fun p=>Sel.forceN fun n'=>Sel.forceN fun len'=>Sel.ret _
theorem sel_bOn {Q : α → Prop} {bl:Blk} {kc:List V→(α → R)→R} {kb:Nat→Nat→(α → R)→R} (h1:∀ l,SelP Q (kc l)) (h2:∀ a b,SelP Q (kb a b)):SelP Q fun k=>bOn id bl (fun l=>kc l k) (fun a b=>kb a b k):=by
 cases bl <;> first | exact h1 _ | exact h2 _ _ | exact Or.inr fun k h=>no_ne h
theorem sel_bOn' {bl:Blk} {kc:List V→(α → R)→R} {kb:Nat→Nat→(α → R)→R} (h1:∀ l,Sel (kc l)) (h2:∀ a b,Sel (kb a b)):Sel fun k=>bOn id bl (fun l=>kc l k) (fun a b=>kb a b k):=by
 cases bl <;> first | exact h1 _ | exact h2 _ _ | exact Or.inr fun k h=>no_ne h
theorem sel_storeN (H:Heap) (b off:Nat) (m:List V):SelP (fun H'=>Fr (some b) H H'∧H'.n=H.n) (fun k=>storeN id H b off m k):=by
 unfold storeN
 simp only [hGet_eq]
 refine sel_bOn (kc:=fun l k=>Ev.allOne id m (setAt id m l off fun l'=>hSet id H b (.cells l') k)) (kb:=fun len x k=>packB id m fun ml mx=>Ev.ifB (Nat.ble (Nat.add off ml) len)
  (Ev.forceN (Nat.add (Nat.mod x (Nat.pow 256 off)) (Nat.shiftLeft (Nat.add mx (Nat.shiftLeft (Nat.shiftRight x (Nat.mul 8 (Nat.add off ml))) (Nat.mul 8 ml))) (Nat.mul 8 off))) fun x'=>hSet id H b (.bytes len x') k) (no 0)) (fun l => ?_) (fun len x => ?_)
 ·exact SelP.allOne (SelP.bind (g:=fun l' k=>hSet id H b (.cells l') k) (sel_setAt l off) fun l'=>sel_hSet H b _)
 ·exact SelP.bind (f:=fun k:Nat × Nat→R=>packB id m fun a b=>k (a,b)) (g:=fun p k=>Ev.ifB (Nat.ble (Nat.add off p.1) len)
   (Ev.forceN (Nat.add (Nat.mod x (Nat.pow 256 off)) (Nat.shiftLeft (Nat.add p.2 (Nat.shiftLeft (Nat.shiftRight x (Nat.mul 8 (Nat.add off p.1))) (Nat.mul 8 p.1))) (Nat.mul 8 off))) fun x'=>hSet id H b (.bytes len x') k) (no 0)) (sel_packB m) fun p=>SelP.ifB (SelP.forceN fun x'=>sel_hSet H b _) (SelP.no 0)
theorem sel_loadC (H:Heap) (b off:Nat):Sel (loadC id H b off):=by
 unfold loadC
 simp only [hGet_eq]
 refine sel_bOn' (kc:=fun l k=>nth id l off k) (kb:=fun len n k=>Ev.ifB (Nat.blt off len) (Ev.forceN (Nat.land (Nat.shiftRight n (Nat.mul 8 off)) 255) fun x=>k (.int 4 x)) (no 0)) (fun l=>sel_nth l off) (fun len n => ?_)
 exact Sel.ifB (Sel.forceN fun x=>Sel.ret _) (Sel.no 0)
theorem sel_unpackB (len:Nat):∀ n,Sel (unpackB len n):=fun n=>Or.inl ⟨_,fun k=>unpackB_eq len n k⟩
theorem sel_loadN (H:Heap) (b off n:Nat):Sel (loadN id H b off n):=by
 unfold loadN
 simp only [hGet_eq]
 refine sel_bOn' (kc:=fun l k=>dropN id l off fun r=>takeN id r n k) (kb:=fun len x k=>Ev.ifB (Nat.ble (Nat.add off n) len) (unpackB n (Nat.shiftRight x (Nat.mul 8 off)) k) (no 0)) (fun l => ?_) (fun len x => ?_)
 ·exact Sel.bind (g:=fun r k=>takeN id r n k) (sel_dropN l off) fun r=>sel_takeN r n
 ·exact Sel.ifB (sel_unpackB n _) (Sel.no 0)
theorem sel_isOne1 {v:V} {f:(α → R)→R} (hf:Sel f):Sel fun k=>Ev.isOne id v (f k):=by
 rcases sel_isOne (id:=id) v with h | h
 ·simp only [h];exact hf
 ·exact Or.inr fun k=>h _
theorem sel_allOne1 {l:List V} {f:(α → R)→R} (hf:Sel f):Sel fun k=>Ev.allOne id l (f k):=by
 rcases sel_allOne (id:=id) l with h | h
 ·simp only [h];exact hf
 ·exact Or.inr fun k=>h _
theorem sel_bRd' {bl:Blk} {kc:List V→(α → R)→R} {kb:Nat→Nat→(α → R)→R} {kv:List V→(α → R)→R} (h1:∀ l,Sel (kc l)) (h2:∀ a b,Sel (kb a b)) (h3:∀ l,Sel (kv l)):Sel fun k=>bRd id bl (fun l=>kc l k) (fun a b=>kb a b k) (fun l=>kv l k):=by
 cases bl <;> first | exact h1 _ | exact h2 _ _ | exact h3 _ | exact Or.inr fun k h=>no_ne h
theorem sel_rdC (H:Heap) (b off:Nat):Sel (rdC id H b off):=by
 unfold rdC
 simp only [hGet_eq]
 refine sel_bRd' (kc:=fun l k=>nth id l off k) (kb:=fun len n k=>Ev.ifB (Nat.blt off len) (Ev.forceN (Nat.land (Nat.shiftRight n (Nat.mul 8 off)) 255) fun x=>k (.int 4 x)) (no 0)) (kv:=fun l k=>nth id l off fun v=>Ev.isOne id v (k v)) (fun l=>sel_nth l off) (fun len n => ?_) (fun l => ?_)
 ·exact Sel.ifB (Sel.forceN fun x=>Sel.ret _) (Sel.no 0)
 ·exact Sel.bind (g:=fun v k=>Ev.isOne id v (k v)) (sel_nth l off) fun v=>sel_isOne1 (Sel.ret _)
theorem sel_rdN (H:Heap) (b off n:Nat):Sel (rdN id H b off n):=by
 unfold rdN
 simp only [hGet_eq]
 refine sel_bRd' (kc:=fun l k=>dropN id l off fun r=>takeN id r n k) (kb:=fun len x k=>Ev.ifB (Nat.ble (Nat.add off n) len) (unpackB n (Nat.shiftRight x (Nat.mul 8 off)) k) (no 0)) (kv:=fun l k=>dropN id l off fun r=>takeN id r n fun q=>Ev.allOne id q (k q)) (fun l => ?_) (fun len x => ?_) (fun l => ?_)
 ·exact Sel.bind (g:=fun r k=>takeN id r n k) (sel_dropN l off) fun r=>sel_takeN r n
 ·exact Sel.ifB (sel_unpackB n _) (Sel.no 0)
 ·exact Sel.bind (g:=fun r k=>takeN id r n fun q=>Ev.allOne id q (k q)) (sel_dropN l off) fun r=>Sel.bind (g:=fun q k=>Ev.allOne id q (k q)) (sel_takeN r n) fun q=>sel_allOne1 (Sel.ret _)
theorem sel_loadB (H:Heap) (b off n:Nat):Sel (loadB id H b off n):=by
 unfold loadB
 simp only [hGet_eq]
 refine sel_bOn' (kc:=fun l k=>dropN id l off fun r=>takeN id r n fun q=>packB id q fun _ x=>k x) (kb:=fun len x k=>Ev.ifB (Nat.ble (Nat.add off n) len) (Ev.forceN (Nat.mod (Nat.shiftRight x (Nat.mul 8 off)) (Nat.pow 256 n)) k) (no 0)) (fun l => ?_) (fun len x => ?_)
 ·exact Sel.bind (g:=fun r k=>takeN id r n fun q=>packB id q fun _ x=>k x) (sel_dropN l off) fun r=>Sel.bind (g:=fun q k=>packB id q fun _ x=>k x) (sel_takeN r n) fun q=>Sel.bind (f:=fun k:Nat × Nat→R=>packB id q fun a b=>k (a,b)) (g:=fun p k=>k p.2) (sel_packB q) fun p=>Sel.ret _
 ·exact Sel.ifB (Sel.forceN fun x=>Sel.ret _) (Sel.no 0)
theorem sel_newCells (size:Nat) (H:Heap) (x:V):Sel (fun k:Nat × List V→R=>newCells id size H x fun n l=>k (n,l)):=by
 cases x <;> first | exact Or.inr fun k h=>no_ne h | exact Or.inl ⟨_,fun k=>rfl⟩ | skip
 ·rename_i l n
  exact Sel.ifB (b:=Nat.beq size 1) (f:=fun k:Nat × List V→R=>unpackB l n fun m=>k (l,m)) (Sel.bind (g:=fun m k=>k (l,m)) (sel_unpackB l n) fun m=>Sel.ret _) (Sel.no 0)
 ·rename_i b o l c s
  cases l with
  | zero=>exact Or.inl ⟨_,fun k=>rfl⟩
  | succ l=>exact Sel.bind (f:=rdN id H b o (Nat.mul (l+1) size)) (g:=fun m (k:Nat × List V→R)=>k (l+1,m)) (sel_rdN H b o _) fun m=>Sel.ret _
theorem sel_newBytes (H:Heap) (x:V):Sel (fun k:Nat × Nat→R=>newBytes id H x fun n l=>k (n,l)):=by
 cases x <;> first | exact Or.inr fun k h=>no_ne h | exact Or.inl ⟨_,fun k=>rfl⟩ | skip
 rename_i b o l c s
 exact Sel.bind (f:=loadB id H b o l) (g:=fun m (k:Nat × Nat→R)=>k (l,m)) (sel_loadB H b o _) fun m=>Sel.ret _
def obOf:V→Option Nat
 | .ptr b _=>some b
 | .slice b _ _ _ _=>some b
 | _=>none
def FrV (ob:Option Nat) (H:Heap) (p:V × Heap):Prop:=Fr ob H p.2
theorem sel_appC {size n b o len cp sz:Nat} {new:List V} {H:Heap}:SelP (FrV (some b) H) (fun k:V × Heap→R=>appC id size n new b o len cp sz H fun v H'=>k (v,H')):=by
 unfold appC
 refine SelP.allOne (SelP.forceN fun need=>SelP.ifB ?_ (SelP.no 0))
 cases cp with
 | zero=>
  refine SelP.ifB (f:=fun k:V × Heap→R=>Ev.ifB (Nat.beq o 0) (hGet H b fun bl=>bOn id bl (fun l=>Ev.ifB (Nat.beq (lenL l) (Nat.mul len size)) (appL l new fun l'=>hSet id H b .dead fun H=>hNew H (.cells l') fun b' H=>k (V.slice b' 0 need 0 size,H)) (no 0)) (fun _ _=>no 0)) (no 0)) (g:=fun _=>no 0) (SelP.ifB ?_ (SelP.no 0)) (SelP.no 0)
  simp only [hGet_eq,appL_eq]
  refine sel_bOn (kc:=fun l (k:V × Heap→R)=>Ev.ifB (Nat.beq (lenL l) (Nat.mul len size)) (hSet id H b .dead fun H=>hNew H (.cells (l ++ new)) fun b' H=>k (V.slice b' 0 need 0 size,H)) (no 0)) (kb:=fun _ _ (_:V × Heap→R)=>no 0) (fun l => ?_) (fun _ _=>SelP.no 0)
  refine SelP.ifB (SelP.bindP (g:=fun H1 (k:V × Heap→R)=>hNew H1 (.cells (l ++ new)) fun b' H=>k (V.slice b' 0 need 0 size,H)) (sel_hSet H b .dead) fun H1 h1 => ?_) (SelP.no 0)
  exact SelP.bindP (f:=fun k:Nat × Heap→R=>hNew H1 (.cells (l ++ new)) fun n H'=>k (n,H')) (g:=fun p (k:V × Heap→R)=>k (V.slice p.1 0 need 0 size,p.2)) (sel_hNew H1 _) fun p hp=>SelP.ret (h1.1.trans hp.1 (by rw [h1.2];exact Nat.le_refl _))
 | succ q=>
  refine SelP.ifB (f:=fun k:V × Heap→R=>storeN id H b (Nat.add o (Nat.mul len size)) new fun H=>k (V.slice b o need (q+1) sz,H)) (g:=fun k:V × Heap→R=>loadN id H b o (Nat.mul len size) fun l=>Ev.allOne id l (appL l new fun l'=>hNew H (.cells l') fun b' H=>k (V.slice b' 0 need 0 size,H))) ?_ ?_
  ·exact SelP.bindP (g:=fun H1 (k:V × Heap→R)=>k (V.slice b o need (q+1) sz,H1)) (sel_storeN H b _ new) fun H1 h1=>SelP.ret h1.1
  ·refine SelP.bind (g:=fun l (k:V × Heap→R)=>Ev.allOne id l (appL l new fun l'=>hNew H (.cells l') fun b' H=>k (V.slice b' 0 need 0 size,H))) (sel_loadN H b o _) fun l=>SelP.allOne ?_
   simp only [appL_eq]
   exact SelP.bindP (f:=fun k:Nat × Heap→R=>hNew H (.cells (l ++ new)) fun n H'=>k (n,H')) (g:=fun p (k:V × Heap→R)=>k (V.slice p.1 0 need 0 size,p.2)) (sel_hNew H _) fun p hp=>SelP.ret hp.1.any
theorem sel_appB {n new b o len cp sz:Nat} {H:Heap}:SelP (FrV (some b) H) (fun k:V × Heap→R=>appB id n new b o len cp sz H fun v H'=>k (v,H')):=by
 unfold appB
 refine SelP.forceN fun need=>SelP.ifB ?_ (SelP.no 0)
 cases cp with
 | zero=>
  refine SelP.ifB (f:=fun k:V × Heap→R=>Ev.ifB (Nat.beq o 0) (hGet H b fun bl=>bOn id bl (fun _=>no 0) (fun ln m=>Ev.ifB (Nat.beq ln len) (Ev.forceN (Nat.add m (Nat.shiftLeft new (Nat.mul 8 len))) fun m'=>hSet id H b .dead fun H=>hNew H (.bytes need m') fun b' H=>k (V.slice b' 0 need 0 1,H)) (no 0))) (no 0)) (g:=fun _=>no 0) (SelP.ifB ?_ (SelP.no 0)) (SelP.no 0)
  simp only [hGet_eq]
  refine sel_bOn (kc:=fun _ (_:V × Heap→R)=>no 0) (kb:=fun ln m (k:V × Heap→R)=>Ev.ifB (Nat.beq ln len) (Ev.forceN (Nat.add m (Nat.shiftLeft new (Nat.mul 8 len))) fun m'=>hSet id H b .dead fun H=>hNew H (.bytes need m') fun b' H=>k (V.slice b' 0 need 0 1,H)) (no 0)) (fun _=>SelP.no 0) (fun ln m => ?_)
  refine SelP.ifB (SelP.forceN fun m' => ?_) (SelP.no 0)
  refine SelP.bindP (g:=fun H1 (k:V × Heap→R)=>hNew H1 (.bytes need m') fun b' H=>k (V.slice b' 0 need 0 1,H)) (sel_hSet H b .dead) fun H1 h1 => ?_
  exact SelP.bindP (f:=fun k:Nat × Heap→R=>hNew H1 (.bytes need m') fun n H'=>k (n,H')) (g:=fun p (k:V × Heap→R)=>k (V.slice p.1 0 need 0 1,p.2)) (sel_hNew H1 _) fun p hp=>SelP.ret (h1.1.trans hp.1 (by rw [h1.2];exact Nat.le_refl _))
 | succ q=>
  refine SelP.ifB (f:=fun _:V × Heap→R=>no 0) (g:=fun k:V × Heap→R=>loadB id H b o len fun m=>Ev.forceN (Nat.add m (Nat.shiftLeft new (Nat.mul 8 len))) fun m'=>hNew H (.bytes need m') fun b' H=>k (V.slice b' 0 need 0 1,H)) (SelP.no 0) ?_
  refine SelP.bind (g:=fun m (k:V × Heap→R)=>Ev.forceN (Nat.add m (Nat.shiftLeft new (Nat.mul 8 len))) fun m'=>hNew H (.bytes need m') fun b' H=>k (V.slice b' 0 need 0 1,H)) (sel_loadB H b o _) fun m=>SelP.forceN fun m' => ?_
  exact SelP.bindP (f:=fun k:Nat × Heap→R=>hNew H (.bytes need m') fun n H'=>k (n,H')) (g:=fun p (k:V × Heap→R)=>k (V.slice p.1 0 need 0 1,p.2)) (sel_hNew H _) fun p hp=>SelP.ret hp.1.any
theorem st_frame {c:OpE} (hc:isSt c=true) {ph:Phi} {e:Env} {H:Heap}:SelP (FrV (obOf (pgetA (adOf c) e)) H) (fun k:V × Heap→R=>evOp c id ph e H fun v H'=>k (v,H')):=by
 cases c <;> simp only [isSt,Bool.false_eq_true] at hc
 ·rename_i a x
  show SelP (FrV (obOf (pgetA a e)) H) (fun k:V × Heap→R=>eStore1 a x id ph e H fun v H'=>k (v,H'))
  unfold eStore1
  refine SelP.getA ?_
  cases pgetA a e <;> first | exact Or.inr fun k h=>no_ne h | skip
  rename_i b o
  refine SelP.getA (g:=fun x (k:V × Heap→R)=>Ev.isOne id x (storeN id H b o [x] fun H=>k (.tup [],H))) (SelP.isOne ?_)
  exact SelP.bindP (g:=fun H1 (k:V × Heap→R)=>k (.tup [],H1)) (sel_storeN H b o _) fun H1 h1=>SelP.ret h1.1
 ·rename_i n a x
  show SelP (FrV (obOf (pgetA a e)) H) (fun k:V × Heap→R=>eStoreA n a x id ph e H fun v H'=>k (v,H'))
  unfold eStoreA
  refine SelP.getA ?_
  cases pgetA a e <;> first | exact Or.inr fun k h=>no_ne h | skip
  rename_i b o
  refine SelP.getA (g:=fun x (k:V × Heap→R)=>vAgg id x fun l=>Ev.ifB (Nat.beq (lenL l) n) (storeN id H b o l fun H=>k (.tup [],H)) (no 0)) ?_
  cases pgetA x e <;> first | exact Or.inr fun k h=>no_ne h | skip
  rename_i l
  refine SelP.ifB (f:=fun k:V × Heap→R=>storeN id H b o l fun H=>k (.tup [],H)) ?_ (SelP.no 0)
  exact SelP.bindP (g:=fun H1 (k:V × Heap→R)=>k (.tup [],H1)) (sel_storeN H b o _) fun H1 h1=>SelP.ret h1.1
 ·rename_i u size s x
  have key:∀ (f:Nat→Nat→Nat→Nat→Nat→Nat→(V × Heap→R)→R) (z:Nat→(V × Heap→R)→R) (n:Nat),(∀ b o len cp sz,SelP (FrV (some b) H) (f n b o len cp sz))→(SelP (FrV none H) (z n)) →
    SelP (FrV (obOf (pgetA s e)) H) (fun k=>vSliceN id (pgetA s e) (fun b o len cp sz=>Nat.rec (motive:=fun _=>R) (k (pgetA s e,H)) (fun _ _=>f n b o len cp sz k) n) (Nat.rec (motive:=fun _=>R) (k (pgetA s e,H)) (fun _ _=>z n k) n)):=fun f z n hf hz=>by
   cases hs:pgetA s e <;> first | exact Or.inr fun k h=>no_ne h | skip
   ·rename_i b o len cp sz
    cases n with
    | zero=>exact SelP.ret fun _ _ _=>rfl
    | succ n=>exact hf b o len cp sz
   ·cases n with
    | zero=>exact SelP.ret fun _ _ _=>rfl
    | succ n=>exact hz
  cases u with
  | true=>
   show SelP (FrV (obOf (pgetA s e)) H) (fun k:V × Heap→R=>eAppB s x id e H fun v H'=>k (v,H'))
   unfold eAppB
   refine SelP.getA (SelP.getA ?_)
   refine SelP.bind (f:=fun k:Nat × Nat→R=>newBytes id H (pgetA x e) fun n l=>k (n,l)) (g:=fun p (k:V × Heap→R)=>vSliceN id (pgetA s e) (fun b o len cp sz=>Nat.rec (motive:=fun _=>R) (k (pgetA s e,H)) (fun _ _=>appB id p.1 p.2 b o len cp sz H fun v H'=>k (v,H')) p.1)
    (Nat.rec (motive:=fun _=>R) (k (pgetA s e,H)) (fun _ _=>Ev.ifB (Nat.ble p.1 1073741824) (hNew H (.bytes p.1 p.2) fun b' H=>k (V.slice b' 0 p.1 0 1,H)) (no 0)) p.1)) (sel_newBytes H _) fun p => ?_
   refine key (fun n b o len cp sz k=>appB id n p.2 b o len cp sz H fun v H'=>k (v,H')) (fun n k=>Ev.ifB (Nat.ble n 1073741824) (hNew H (.bytes n p.2) fun b' H=>k (V.slice b' 0 n 0 1,H)) (no 0)) p.1 (fun b o len cp sz=>sel_appB) ?_
   refine SelP.ifB ?_ (SelP.no 0)
   exact SelP.bindP (f:=fun k:Nat × Heap→R=>hNew H (.bytes p.1 p.2) fun n H'=>k (n,H')) (g:=fun q (k:V × Heap→R)=>k (V.slice q.1 0 p.1 0 1,q.2)) (sel_hNew H _) fun q hq=>SelP.ret hq.1
  | false=>
   show SelP (FrV (obOf (pgetA s e)) H) (fun k:V × Heap→R=>eAppC size s x id e H fun v H'=>k (v,H'))
   unfold eAppC
   refine SelP.getA (SelP.getA ?_)
   refine SelP.bind (f:=fun k:Nat × List V→R=>newCells id size H (pgetA x e) fun n l=>k (n,l)) (g:=fun p (k:V × Heap→R)=>vSliceN id (pgetA s e) (fun b o len cp sz=>Nat.rec (motive:=fun _=>R) (k (pgetA s e,H)) (fun _ _=>appC id size p.1 p.2 b o len cp sz H fun v H'=>k (v,H')) p.1)
    (Nat.rec (motive:=fun _=>R) (k (pgetA s e,H)) (fun _ _=>Ev.allOne id p.2 (Ev.ifB (Nat.ble p.1 1073741824) (hNew H (.cells p.2) fun b' H=>k (V.slice b' 0 p.1 0 size,H)) (no 0))) p.1)) (sel_newCells size H _) fun p => ?_
   refine key (fun n b o len cp sz k=>appC id size n p.2 b o len cp sz H fun v H'=>k (v,H')) (fun n k=>Ev.allOne id p.2 (Ev.ifB (Nat.ble n 1073741824) (hNew H (.cells p.2) fun b' H=>k (V.slice b' 0 n 0 size,H)) (no 0))) p.1 (fun b o len cp sz=>sel_appC) ?_
   refine SelP.allOne (SelP.ifB ?_ (SelP.no 0))
   exact SelP.bindP (f:=fun k:Nat × Heap→R=>hNew H (.cells p.2) fun n H'=>k (n,H')) (g:=fun q (k:V × Heap→R)=>k (V.slice q.1 0 p.1 0 size,q.2)) (sel_hNew H _) fun q hq=>SelP.ret hq.1
end
end Go.Ev
end
section
namespace Go.Ev
open Go.RowKit
theorem adBlk_ok {id:Nat} {x:V} {f:Option Nat→R} (h:adBlk id x f=1):f (obOf x)=1:=by
 cases x <;> first | exact (no_ne h).elim | exact h
theorem apartN_ok {id bf b:Nat}:∀ {l:List (Nat × Nat)} {k:R},apartN id bf b l k=1→(∀ p ∈ l,bf.testBit p.1=false→b≠p.2)∧k=1
 | [],k,h=>⟨fun p hp=>(by cases hp),h⟩
 | (i,c) :: l,k,h=>by
  have h2:(Nat.testBit bf i=true∨b≠c)∧apartN id bf b l k=1:=by
   rcases ifB_or (show ifB (Nat.testBit bf i) (apartN id bf b l k) (ifB (Nat.beq b c) (no 0) (apartN id bf b l k))=1 from h) with ⟨h3,h4⟩ | ⟨h3,h4⟩
   ·exact ⟨Or.inl h3,h4⟩
   ·rcases ifB_or h4 with ⟨_,h6⟩ | ⟨h5,h6⟩
    ·exact (no_ne h6).elim
    ·refine ⟨Or.inr fun e => ?_,h6⟩
     subst e
     rw [beq_dec] at h5
     simp at h5
  obtain ⟨h3,h4⟩:=apartN_ok h2.2
  refine ⟨fun p hp => ?_,h4⟩
  rcases List.mem_cons.1 hp with rfl | hp
  ·intro hb
   rcases h2.1 with h5 | h5
   ·rw [hb] at h5;cases h5
   ·exact h5
  ·exact h3 p hp
theorem loadC_eq {id b off:Nat} {H H2:Heap} (h:H2.get b=H.get b) (k:V→R):loadC id H2 b off k=loadC id H b off k:=by
 unfold loadC
 rw [hGet_eq,hGet_eq,h]
theorem loadN_eq {id b off n:Nat} {H H2:Heap} (h:H2.get b=H.get b) (k:List V→R):loadN id H2 b off n k=loadN id H b off n k:=by
 unfold loadN
 rw [hGet_eq,hGet_eq,h]
theorem rdC_eq {id b off:Nat} {H H2:Heap} (h:H2.get b=H.get b) (k:V→R):rdC id H2 b off k=rdC id H b off k:=by
 unfold rdC
 rw [hGet_eq,hGet_eq,h]
theorem rdN_eq {id b off n:Nat} {H H2:Heap} (h:H2.get b=H.get b) (k:List V→R):rdN id H2 b off n k=rdN id H b off n k:=by
 unfold rdN
 rw [hGet_eq,hGet_eq,h]
theorem ld_any {c:OpE} (hc:isLd c=true) {id:Nat} {ph:Phi} {e:Env} {H:Heap} {k:K} {b:Nat} (hb:obOf (pgetA (adOf c) e)=some b) (h:evOp c id ph e H k=1):∃ v,k v H=1 ∧ ∀ H2:Heap,H2.get b=H.get b → ∀ k2:K,evOp c id ph e H2 k2=k2 v H2:=by
 cases c <;> simp only [isLd,Bool.false_eq_true] at hc
 ·rename_i a
  have e1:∀ (H2:Heap) (k2:K),evOp (.load1 a) id ph e H2 k2=vPtr id (pgetA a e) fun b o=>rdC id H2 b o fun v=>k2 v H2:=fun H2 k2=>by
   show eLoad1 a id ph e H2 k2=_
   unfold eLoad1
   rw [getA_eq]
  rw [e1] at h
  obtain ⟨b',off,hx,h1⟩:=vPtr_ok h
  have hbb:b'=b:=by
   have hb':obOf (pgetA a e)=some b:=hb
   rw [hx] at hb'
   simpa [obOf] using hb'
  subst hbb
  rcases sel_rdC (id:=id) H b' off with ⟨v,hv⟩ | hv
  ·refine ⟨v,by rw [← hv fun v=>k v H];exact h1,fun H2 h2 k2 => ?_⟩
   rw [e1,hx]
   show rdC id H2 b' off (fun v=>k2 v H2)=_
   rw [rdC_eq h2,hv]
  ·exact absurd h1 (hv _)
 ·rename_i n a
  have e1:∀ (H2:Heap) (k2:K),evOp (.loadA n a) id ph e H2 k2=vPtr id (pgetA a e) fun b o=>rdN id H2 b o n fun l=>k2 (.agg l) H2:=fun H2 k2=>by
   show eLoadA n a id ph e H2 k2=_
   unfold eLoadA
   rw [getA_eq]
  rw [e1] at h
  obtain ⟨b',off,hx,h1⟩:=vPtr_ok h
  have hbb:b'=b:=by
   have hb':obOf (pgetA a e)=some b:=hb
   rw [hx] at hb'
   simpa [obOf] using hb'
  subst hbb
  rcases sel_rdN (id:=id) H b' off n with ⟨l,hv⟩ | hv
  ·refine ⟨.agg l,by rw [← hv fun l=>k (.agg l) H];exact h1,fun H2 h2 k2 => ?_⟩
   rw [e1,hx]
   show rdN id H2 b' off n (fun l=>k2 (.agg l) H2)=_
   rw [rdN_eq h2,hv]
  ·exact absurd h1 (hv _)
theorem iso_spec {l:List Bool} {bf:Array Nat} {i j:Nat} (h:isolated l bf i=true) (hj:l[j]? = some false) (hne:i≠j):ordd bf i j=true:=by
 unfold isolated at h
 rw [List.all_eq_true] at h
 have:=h (false,j) (List.mem_zipIdx_iff_getElem?.2 hj)
 simp only [Bool.false_or,Bool.or_eq_true,beq_iff_eq] at this
 unfold ordd
 rw [Bool.or_eq_true]
 rcases this with (h1 | h1) | h1
 ·exact absurd h1.symm hne
 ·exact Or.inl h1
 ·exact Or.inr h1
theorem ordd_comm (bf:Array Nat) (i j:Nat):ordd bf i j=ordd bf j i:=by unfold ordd;rw [Bool.or_comm]
def purAt (cs:List OpE) (bf:Array Nat) (x:Nat):Bool:=pureOp (cs.getD x .bad) || floatL cs bf x
theorem alF_aggL {P:Program} {op:BinOp} {t:TypeId} {c:List Nat} {x y:Arg}:isAlF (compAggL P op t c x y)=false:=by
 unfold compAggL
 (repeat' split) <;> rfl
theorem alF_eqv {k:Nat} {op:BinOp} {x y:Arg}:isAlF (eqvOp k op x y)=false:=by
 unfold eqvOp
 (repeat' split) <;> rfl
theorem alF_bin {P:Program} {op:BinOp} {xt yt:TypeId} {x y:Arg}:isAlF (compBin P op xt yt x y)=false:=by
 unfold compBin compAggEq compArrEq
 (repeat' split) <;> first | rfl | exact alF_eqv | exact alF_aggL
theorem alF_conv {k k':IntKind} {x:Arg}:isAlF (convOp k k' x)=false:=by
 unfold convOp
 (repeat' split) <;> rfl
theorem alF_builtin {P:Program} {nt:Nat} {b:Builtin} {as:List Operand} {ts:List TypeId}:isAlF (compBuiltin P nt b as ts)=false:=by
 unfold compBuiltin
 (repeat' split) <;> rfl
theorem vr_closed {m m':M} {v:V} {cv:Value} (hk:Kd v v) (h:VR m v cv):VR m' v cv:=by
 rcases hk with ⟨k,a,b,rfl,_⟩ | ⟨l,a,q,b,rfl,_⟩
 ·simpa only [VR] using h
 ·simpa only [VR] using h
theorem vrs_closed {m m':M}:∀ {l:List V} {cs:List Value},(∀ v ∈ l,Kd v v)→VRs m l cs→VRs m' l cs
 | [],_,_,h=>by simpa only [VRs] using h
 | v :: l,cs,hk,h=>by
  simp only [VRs] at h ⊢
  obtain ⟨c,r,h1,h2,h3⟩:=h
  exact ⟨c,r,h1,vr_closed (hk v (List.mem_cons_self ..)) h2,vrs_closed (fun x hx=>hk x (List.mem_cons_of_mem _ hx)) h3⟩
theorem box_ok {P:Program} {nt:Nat} {o:Oper} {id:Nat} {ph:Phi} {e:Env} {H:Heap} {k:K} (hal:isAlF (compOp P nt o)=true) (h:evOp (compOp P nt o) id ph e H k=1) :
  ∃ l H',NewTo H (.cells l) H'∧k (.ptr H.n 0) H'=1∧((∀ v ∈ l,Kd v v) → ∀ (G G':Heap),NewTo G (.cells l) G'→AlOK P nt e o G (.ptr G.n 0) G'):=by
 have hop:∃ t x,o.op = .box t x:=by
  unfold compOp at hal
  split at hal <;> first
   | exact ⟨_,_,by assumption⟩
   | (exfalso;revert hal; (repeat' split) <;> first | (rw [alF_bin];simp;done) | (rw [alF_conv];simp;done) | (rw [alF_builtin];simp;done) | simp [isAlF])
 obtain ⟨t,x,hop⟩:=hop
 simp only [compOp,hop] at h
 have mem:x ∈ o.op.operands:=by simp [hop,Op.operands]
 have hnd:∀ c,o.op ≠ .defer c:=by simp [hop]
 split at h
 ·rename_i x' hx
  have h':eBox x' id ph e H k=1:=h
  unfold eBox at h'
  rw [getA_eq] at h'
  obtain ⟨l,h1,h2⟩:=vCells_pure h'
  obtain ⟨h3,h4⟩:=allOne_ok h1
  obtain ⟨H',h5,h6⟩:=hNew_ok h4
  refine ⟨l,H',h6,h5,fun hcl G G' hN=>⟨.cells l,rfl,hN,trivial,by simp,fun m a ho=>⟨.cells (a.eval x).cells t,fun m'=>BR_of_row (row:=l) rfl (fun len m e=>by cases e) (RowR.exact (vrs_closed hcl (h2 _ _ (ho x mem x' hx))) h3),fun rd w=>⟨about_any P o a w rd, ?_⟩⟩⟩⟩
  rw [semAt_eq hnd]
  have hex:(execOp a.eval o).run P w = .ok (.value (.pointer (some ⟨w.heap.size,0,none⟩))) (w.alloc (.cells (a.eval x).cells t)):=by
   simp [execOp,hop,Instr.box,newVar,newRow]
  rw [hex]
  exact ⟨rfl,rfl⟩
 ·exact (no_ne h).elim
theorem closB_ok {id:Nat} {l:List V} {k:R} (h:closB id (.cells l) k=1):(∀ v ∈ l,Kd v v)∧k=1:=by
 have h':List.rec (motive:=fun _=>R) k (fun v _ ih=>isKey id v ih) l=1:=h
 clear h
 induction l with
 | nil=>exact ⟨fun v hv=>(by cases hv),h'⟩
 | cons v l ih=>
  obtain ⟨h1,h2⟩:=isKey_ok (show isKey id v (List.rec (motive:=fun _=>R) k (fun v _ ih=>isKey id v ih) l)=1 from h')
  obtain ⟨h3,h4⟩:=ih h2
  exact ⟨fun x hx=>by
   rcases List.mem_cons.1 hx with rfl | hx
   ·exact h1
   ·exact h3 x hx,h4⟩
theorem late_al {cs:List OpE} {bf:Array Nat} {i:Nat} (h:lateB cs bf i=true):isAlF (cs.getD i .bad)=true:=by
 unfold lateB at h
 rw [Bool.and_eq_true] at h
 exact h.1
theorem st_nonpure {c:OpE} (h:isSt c=true):pureOp c=false:=by cases c <;> first | rfl | cases h
theorem late_iso {cs:List OpE} {bf:Array Nat} {i:Nat} (h:lateB cs bf i=true):isoF cs bf i=false:=by
 cases hx:isoF cs bf i with
 | false=>rfl
 | true=>
  exfalso
  have ha:=late_al h
  unfold isoF at hx
  rw [Bool.and_eq_true,Bool.or_eq_true] at hx
  have hs:isSt (cs.getD i .bad)=false:=by
   cases hc:cs.getD i .bad <;> rw [hc] at ha <;> first | rfl | cases ha
  have hi:=hx.2.resolve_left (by rw [hs];simp)
  unfold lateB at h
  rw [Bool.and_eq_true,List.any_eq_true] at h
  obtain ⟨_,⟨q,j⟩,hq,hb⟩:=h
  simp only [Bool.and_eq_true,Bool.not_eq_true'] at hb
  obtain ⟨⟨h1,h2⟩,h3⟩:=hb
  have hij:i<j:=by unfold Nat.blt at h2;exact Nat.le_of_ble_eq_true h2
  have hjq:=List.mem_zipIdx_iff_getElem?.1 hq
  have:=iso_spec hi (by rw [List.getElem?_map,hjq];simp [st_nonpure h1]) (by omega)
  rw [h3] at this
  cases this
def FOut (P:Program) (nt:Nat) (ops:Array Oper) (cs:List OpE) (bf:Array Nat) (n0:Nat) (l:List Oper) (i:Nat) (e:Env) (H:Heap) (fl st:List (Nat × Nat)) (k:Env→Heap→R):Prop:=
  ∃ (E:Nat→Env) (Hh:Nat→Heap) (Vv:Nat→V) (B:Nat→Option Nat),E 0=e∧Hh 0=H∧(∀ j o,l[j]? = some o→StepOK P nt ops (isoF cs bf (i+j)) (purAt cs bf (i+j)) (B j) o (E j) (Hh j) (Vv j) (E (j+1)) (Hh (j+1)))∧k (E l.length) (Hh l.length)=1 ∧
  (∀ j b,j<l.length→B j=some b→b<n0∧(∃ c,cs[i+j]? = some c∧pureOp c=false) ∧ ∀ p ∈ st,(bf.getD (i+j) 0).testBit p.1=false→b≠p.2) ∧
  (∀ j,j<l.length→isoF cs bf (i+j)=true→purAt cs bf (i+j)=false → ∀ p ∈ fl,(bf.getD (i+j) 0).testBit p.1=false→p.2 < (Hh j).n→(Hh (j+1)).get p.2=(Hh j).get p.2) ∧
  (∀ j1 j2 b,j1<l.length→j2<l.length→B j1=some b→isoF cs bf (i+j2)=true→purAt cs bf (i+j2)=false→ordd bf (i+j1) (i+j2)=false→b < (Hh j2).n→(Hh (j2+1)).get b=(Hh j2).get b) ∧
  (∀ j o,l[j]? = some o→lateB cs bf (i+j)=true→(GW nt (E j) ops o false∧Vv j = .tup []∧Hh (j+1)=Hh j)∨(AlOK P nt (E j) o (Hh j) (Vv j) (Hh (j+1)) ∧ ∀ j2,j<j2→j2<l.length→isoF cs bf (i+j2)=true→purAt cs bf (i+j2)=false→ordd bf (i+j) (i+j2)=false→(Hh j).n < (Hh j2).n→(Hh (j2+1)).get (Hh j).n=(Hh j2).get (Hh j).n))
theorem evFreg_ok {P:Program} {nt:Nat} {ph:Phi} {ops:Array Oper} {base n0:Nat} {cs:List OpE} {bf:Array Nat} (hph:PhiOK P ph) (hbl:∀ x y,(bf.getD x 0).testBit y=true→y<x):∀ (l:List Oper) (i:Nat) (r:List OpW2) (e:Env) (H:Heap) (fl st:List (Nat × Nat)) (k:Env→Heap→R),compFregG P nt base ops cs bf l i=some r→(∀ j o,l[j]? = some o→cs[i+j]? = some (compOp P nt o))→(∀ p ∈ fl,p.1<i ∧ ∃ c,cs[p.1]? = some c∧pureOp c=false)→evFreg ph n0 r e H fl st k=1→FOut P nt ops cs bf n0 l i e H fl st k
 | [],i,r,e,H,fl,st,k,hc,_,_,h=>by
  simp only [compFregG,Option.some.injEq] at hc
  subst hc
  exact ⟨fun _=>e,fun _=>H,fun _ => .nilp,fun _=>none,rfl,rfl,fun j o hj=>by simp at hj,h,fun j b hj=>by simp at hj,fun j hj=>by simp at hj,fun j1 j2 b hj=>by simp at hj,fun j o hj=>by simp at hj⟩
 | o :: l,i,r,e,H,fl,st,k,hc,hcs,hfl,h=>by
  simp only [compFregG] at hc
  split at hc
  ·rename_i d g r' hd hg hr
   cases hc
   have hci:cs[i]? = some (compOp P nt o):=by simpa using hcs 0 o rfl
   have hcd:cs.getD i .bad=compOp P nt o:=by rw [List.getD_eq_getElem?_getD,hci];rfl
   have hcs':∀ j o',l[j]? = some o'→cs[i+1+j]? = some (compOp P nt o'):=fun j o' hj=>by
    have:=hcs (j+1) o' (by simpa using hj)
    rwa [show i+(j+1)=i+1+j by omega] at this
   have hpi:purAt cs bf i=(pureOp (compOp P nt o) || floatL cs bf i):=by unfold purAt;rw [hcd]
   have fin:∀ (v:V) (H1:Heap) (B0:Option Nat) (fl' st':List (Nat × Nat)),StepOK P nt ops (isoF cs bf i) (purAt cs bf i) B0 o e H v (psetD d v e) H1 →
     (∀ b,B0=some b→b<n0∧pureOp (compOp P nt o)=false∧(∀ p ∈ st,(bf.getD i 0).testBit p.1=false→b≠p.2)∧(i,b) ∈ fl'∧purAt cs bf i=true) →
     (isoF cs bf i=true→purAt cs bf i=false → ∀ p ∈ fl,(bf.getD i 0).testBit p.1=false→p.2<H.n→H1.get p.2=H.get p.2) →
     (isoF cs bf i=true→purAt cs bf i=false → ∀ x b,i<x→(∃ c,cs[x]? = some c∧pureOp c=false)→(∀ p ∈ st',(bf.getD x 0).testBit p.1=false→b≠p.2)→ordd bf x i=false→b<H.n→H1.get b=H.get b) →
     (∀ p ∈ fl',p.1<i+1 ∧ ∃ c,cs[p.1]? = some c∧pureOp c=false)→(∀ p ∈ fl,p ∈ fl')→(∀ p ∈ st,p ∈ st')→(lateB cs bf i=true→(GW nt e ops o false∧v = .tup []∧H1=H)∨(AlOK P nt e o H v H1∧(i,H.n) ∈ fl'))→evFreg ph n0 r' (psetD d v e) H1 fl' st' k=1→FOut P nt ops cs bf n0 (o :: l) i e H fl st k:=fun v H1 B0 fl' st' hs hA hC hK hfl' s1 s2 hL hev=>by
    obtain ⟨E,Hh,Vv,B,h1,h2,h3,h4,h5,h6,h7,h8⟩:=evFreg_ok hph hbl l (i+1) r' _ _ fl' st' k hr hcs' hfl' hev
    refine ⟨ncons e E,ncons H Hh,ncons v Vv,ncons B0 B,rfl,rfl,fun j o' hj => ?_,h4,fun j b hj hb => ?_,fun j hj hi hp p hpm hbit hlt => ?_,fun j1 j2 b hj1 hj2 hb hi hp hord hlt => ?_,fun j o' hj hla => ?_⟩
    ·cases j with
     | zero=>
      simp only [List.getElem?_cons_zero,Option.some.injEq] at hj
      subst hj
      show StepOK P nt ops (isoF cs bf (i+0)) _ B0 o e H v (E 0) (Hh 0)
      rw [h1,h2]
      exact hs
     | succ j=>
      have:=h3 j o' (by simpa using hj)
      rw [show i+1+j=i+(j+1) by omega] at this
      exact this
    ·cases j with
     | zero=>
      obtain ⟨q1,q2,q3,_⟩:=hA b hb
      exact ⟨q1,⟨_,by simpa using hci,q2⟩,q3⟩
     | succ j=>
      obtain ⟨q1,q2,q3⟩:=h5 j b (by simpa using hj) hb
      rw [show i+1+j=i+(j+1) by omega] at q2 q3
      exact ⟨q1,q2,fun p hp=>q3 p (s2 p hp)⟩
    ·cases j with
     | zero=>
      show (Hh 0).get p.2=H.get p.2
      rw [h2]
      exact hC hi hp p hpm hbit hlt
     | succ j=>
      have:=h6 j (by simpa using hj)
      rw [show i+1+j=i+(j+1) by omega] at this
      exact this hi hp p (s1 p hpm) hbit hlt
    ·cases j2 with
     | zero=>
      cases j1 with
      | zero=>
       obtain ⟨_,_,_,_,q5⟩:=hA b hb
       exact absurd (hp.symm.trans q5) (by simp)
      | succ j1=>
       obtain ⟨_,q2,q3⟩:=h5 j1 b (by simpa using hj1) hb
       show (Hh 0).get b=H.get b
       rw [h2]
       exact hK hi hp (i+1+j1) b (by omega) q2 q3 (by rw [show i+1+j1=i+(j1+1) by omega];exact hord) hlt
     | succ j2=>
      cases j1 with
      | zero=>
       obtain ⟨_,_,_,q4,_⟩:=hA b hb
       have:=h6 j2 (by simpa using hj2)
       rw [show i+1+j2=i+(j2+1) by omega] at this
       refine this hi hp (i,b) q4 ?_ hlt
       unfold ordd at hord
       rw [Bool.or_eq_false_iff] at hord
       exact hord.2
      | succ j1=>
       have:=h7 j1 j2 b (by simpa using hj1) (by simpa using hj2) hb
       rw [show i+1+j1=i+(j1+1) by omega,show i+1+j2=i+(j2+1) by omega] at this
       exact this hi hp hord hlt
    ·cases j with
     | zero=>
      simp only [List.getElem?_cons_zero,Option.some.injEq] at hj
      subst hj
      rcases hL hla with ⟨q1,q2,q3⟩ | ⟨q1,q2⟩
      ·exact Or.inl ⟨q1,q2,by show Hh 0=H;rw [h2];exact q3⟩
      ·refine Or.inr ⟨by show AlOK P nt e o H v (Hh 0);rw [h2];exact q1,fun j2 hj2 hjl hi hp hord hlt => ?_⟩
       cases j2 with
       | zero=>omega
       | succ j2=>
        have:=h6 j2 (by simpa using hjl)
        rw [show i+1+j2=i+(j2+1) by omega] at this
        refine this hi hp (i,H.n) q2 ?_ hlt
        unfold ordd at hord
        rw [Bool.or_eq_false_iff] at hord
        exact hord.2
     | succ j=>
      have:=h8 j o' (by simpa using hj) (by rw [show i+1+j=i+(j+1) by omega];exact hla)
      refine this.imp id fun hA=>⟨hA.1,fun j2 hj2 hjl hi hp hord hlt => ?_⟩
      cases j2 with
      | zero=>omega
      | succ j2=>
       have:=hA.2 j2 (by omega) (by simpa using hjl)
       rw [show i+1+j2=i+(j2+1) by omega,show i+1+j=i+(j+1) by omega] at this
       exact this hi hp hord hlt
   have skip0:GW nt e ops o false→StepOK P nt ops (isoF cs bf i) (purAt cs bf i) none o e H (.tup []) (psetD d (.tup []) e) H→evFreg ph n0 r' (psetD d (.tup []) e) H fl st k=1→FOut P nt ops cs bf n0 (o :: l) i e H fl st k:=fun hgw hs hev=>
    fin _ H none fl st hs (fun b hb=>by cases hb) (fun _ _ _ _ _ _=>rfl) (fun _ _ _ _ _ _ _ _ _=>rfl) (fun p hp=>⟨Nat.lt_succ_of_lt (hfl p hp).1,(hfl p hp).2⟩) (fun _ h=>h) (fun _ h=>h) (fun _=>Or.inl ⟨hgw,rfl,rfl⟩) hev
   have hla:lateB cs bf i=true→isAlF (compOp P nt o)=true:=fun hl=>by have:=late_al hl;rwa [hcd] at this
   have hnoI:isoF cs bf i=true → ∀ {X:Prop},lateB cs bf i=true→X:=fun hi X hl=>by rw [late_iso hl] at hi;cases hi
   have hfls:∀ p ∈ fl,p.1<i+1 ∧ ∃ c,cs[p.1]? = some c∧pureOp c=false:=fun p hp=>⟨Nat.lt_succ_of_lt (hfl p hp).1,(hfl p hp).2⟩
   have h':wantG g e (Nat.rec (motive:=fun _=>R)
    (evOp (compOp P nt o) (base+i) ph e H fun v H'=>setD d v e fun e'=>evFreg ph n0 r' e' H' fl st k)
    (fun t1 _=>Nat.rec (motive:=fun _=>R)
     (Heap.rec (motive:=fun _=>R) (fun n wlo t=>evOp (compOp P nt o) (base+i) ph e (.mk n n t) fun v H'=>Heap.rec (motive:=fun _=>R) (fun n' wlo' t'=>ifB (Nat.ble n wlo') (setD d v e fun e'=>evFreg ph n0 r' e' (.mk n' wlo t') fl st k) (no 0)) H') H)
     (fun t2 _=>getA (adOf (compOp P nt o)) e fun a=>adBlk (base+i) a fun ob=>Nat.rec (motive:=fun _=>R)
      (Option.rec (motive:=fun _=>R) (no 0) (fun b=>ifB (Nat.blt b n0) (apartN (base+i) (bf.getD i 0) b st (evOp (compOp P nt o) (base+i) ph e H fun v H'=>setD d v e fun e'=>evFreg ph n0 r' e' H ((i,b) :: fl) st k)) (no 0)) ob)
      (fun t3 _=>Nat.rec (motive:=fun _=>R)
       (Option.rec (motive:=fun _=>R) (evOp (compOp P nt o) (base+i) ph e H fun v H'=>setD d v e fun e'=>evFreg ph n0 r' e' H' fl st k)
        (fun b=>apartN (base+i) (bf.getD i 0) b fl (evOp (compOp P nt o) (base+i) ph e H fun v H'=>setD d v e fun e'=>evFreg ph n0 r' e' H' fl ((i,b) :: st) k)) ob)
       (fun _ _=>Heap.rec (motive:=fun _=>R) (fun n wlo t=>evOp (compOp P nt o) (base+i) ph e (.mk n n t) fun v H'=>Heap.rec (motive:=fun _=>R) (fun n' wlo' t'=>ifB (Nat.ble n wlo') (closB (base+i) (HT.get t' n) (setD d v e fun e'=>evFreg ph n0 r' e' (.mk n' wlo t') ((i,n) :: fl) st k)) (no 0)) H') H) t3) t2) t1) (tagOf cs bf (compOp P nt o) i))
    (setD d (.tup []) e fun e'=>evFreg ph n0 r' e' H fl st k)=1:=h
   rcases wantG_or hg h' with ⟨h1,h2⟩ | ⟨h1,h2⟩
   rotate_left
   ·rw [setD_eq] at h1
    exact skip0 h2 ⟨d,hd,rfl,Or.inl ⟨h2,rfl,rfl⟩⟩ h1
   by_cases hf:floatL cs bf i=true
   ·have hld:isLd (compOp P nt o)=true:=by
     unfold floatL at hf
     rw [Bool.and_eq_true,hcd] at hf
     exact hf.1
    have hnp:pureOp (compOp P nt o)=false:=by cases hcc:compOp P nt o <;> rw [hcc] at hld <;> first | rfl | cases hld
    rw [show tagOf cs bf (compOp P nt o) i=2 by unfold tagOf;rw [if_pos hf]] at h1
    have h3:getA (adOf (compOp P nt o)) e (fun a=>adBlk (base+i) a fun ob=>Option.rec (motive:=fun _=>R) (no 0) (fun b=>ifB (Nat.blt b n0) (apartN (base+i) (bf.getD i 0) b st (evOp (compOp P nt o) (base+i) ph e H fun v H'=>setD d v e fun e'=>evFreg ph n0 r' e' H ((i,b) :: fl) st k)) (no 0)) ob)=1:=h1
    rw [getA_eq] at h3
    have h4:=adBlk_ok h3
    cases hob:obOf (pgetA (adOf (compOp P nt o)) e) with
    | none=>rw [hob] at h4;exact (no_ne h4).elim
    | some b=>
     rw [hob] at h4
     obtain ⟨h5,h6⟩:=ifB_no (show ifB (Nat.blt b n0) _ (no 0)=1 from h4)
     obtain ⟨h7,h8⟩:=apartN_ok h6
     obtain ⟨v,h9,h10⟩:=ld_any hld hob h8
     have h9':setD d v e (fun e'=>evFreg ph n0 r' e' H ((i,b) :: fl) st k)=1:=h9
     rw [setD_eq] at h9'
     have hpt:purAt cs bf i=true:=by rw [hpi,hf];simp
     refine fin v H (some b) ((i,b) :: fl) st ⟨d,hd,rfl,Or.inr (Or.inl ⟨h2,hpt,rfl,fun H2 hH2 => ?_⟩)⟩ (fun b' hb' => ?_) (fun _ hp=>absurd (hp.symm.trans hpt) (by simp)) (fun _ hp=>absurd (hp.symm.trans hpt) (by simp)) (fun p hp => ?_) (fun p hp=>List.mem_cons_of_mem _ hp) (fun _ h=>h) (fun hl=>by have:=hla hl;cases hcc:compOp P nt o <;> rw [hcc] at hld this <;> first | (cases this;done) | (cases hld;done)) h9'
     ·have hev:=h10 H2 (hH2 b rfl) (fun v' H'=>open Classical in if v'=v∧H'=H2 then 1 else 0)
      obtain ⟨v',H',q1,q2⟩:=evOp_sound hph (P:=P) (nt:=nt) (o:=o) (id:=base+i) (e:=e) (H:=H2) (by rw [hev];simp)
      have q3:v'=v∧H'=H2:=by
       by_cases hq:v'=v∧H'=H2
       ·exact hq
       ·simp [hq] at q2
      rw [← q3.1]
      have:=q1
      rw [q3.2] at this
      exact this
     ·cases hb'
      exact ⟨blt_of h5,hnp,h7,List.mem_cons_self ..,hpt⟩
     ·rcases List.mem_cons.1 hp with rfl | hp
      ·exact ⟨Nat.lt_succ_self i,_,hci,hnp⟩
      ·exact hfls p hp
   ·have hf':floatL cs bf i=false:=by simpa using hf
    by_cases hpu:pureOp (compOp P nt o)=true
    ·rw [show tagOf cs bf (compOp P nt o) i=0 by unfold tagOf;rw [if_neg hf,if_pos hpu]] at h1
     obtain ⟨v,h3,h4⟩:=pure_any hph hpu (show evOp (compOp P nt o) (base+i) ph e H (fun v H'=>setD d v e fun e'=>evFreg ph n0 r' e' H' fl st k)=1 from h1)
     have h4':setD d v e (fun e'=>evFreg ph n0 r' e' H fl st k)=1:=h4
     rw [setD_eq] at h4'
     have hpt:purAt cs bf i=true:=by rw [hpi,hpu];rfl
     exact fin v H none fl st ⟨d,hd,rfl,Or.inr (Or.inl ⟨h2,hpt,rfl,fun H2 _=>h3 H2⟩)⟩ (fun b hb=>by cases hb) (fun _ _ _ _ _ _=>rfl) (fun _ _ _ _ _ _ _ _ _=>rfl) hfls (fun _ h=>h) (fun _ h=>h) (fun hl=>by have:=hla hl;cases hcc:compOp P nt o <;> rw [hcc] at hpu this <;> first | (cases this;done) | (cases hpu;done)) h4'
    ·have hpf:purAt cs bf i=false:=by rw [hpi,hf'];simpa using hpu
     have hpn:pureOp (compOp P nt o)=false:=by simpa using hpu
     by_cases his:isoF cs bf i=true
     ·by_cases hi0:isolated (cs.map pureOp) bf i=true
      ·rw [show tagOf cs bf (compOp P nt o) i=0 by unfold tagOf;rw [if_neg hf,if_neg hpu,if_pos his,if_pos hi0]] at h1
       obtain ⟨v,H1,h3,h4⟩:=evOp_sound hph (show evOp (compOp P nt o) (base+i) ph e H (fun v H'=>setD d v e fun e'=>evFreg ph n0 r' e' H' fl st k)=1 from h1)
       have h4':setD d v e (fun e'=>evFreg ph n0 r' e' H1 fl st k)=1:=h4
       rw [setD_eq] at h4'
       have hno:∀ x,x≠i→(∃ c,cs[x]? = some c∧pureOp c=false)→ordd bf i x=true:=fun x hx ⟨c,hc1,hc2⟩=>iso_spec hi0 (by rw [List.getElem?_map,hc1];simp [hc2]) (Ne.symm hx)
       refine fin v H1 none fl st ⟨d,hd,rfl,Or.inr (Or.inr (Or.inl ⟨h2,hpf,his,h3⟩))⟩ (fun b hb=>by cases hb) (fun _ _ p hp hbit _ => ?_) (fun _ _ x b hx hxc _ hord _ => ?_) hfls (fun _ h=>h) (fun _ h=>h) (fun hl=>hnoI his hl) h4'
       ·have hlt:=(hfl p hp).1
        have ho:=hno p.1 (by omega) (hfl p hp).2
        unfold ordd at ho
        rw [hbit,Bool.false_or] at ho
        have:=hbl _ _ ho
        omega
       ·rw [ordd_comm,hno x (by omega) hxc] at hord
        cases hord
      ·rw [show tagOf cs bf (compOp P nt o) i=3 by unfold tagOf;rw [if_neg hf,if_neg hpu,if_pos his,if_neg hi0]] at h1
       have hst:isSt (compOp P nt o)=true:=by
        have hi:=his
        unfold isoF at hi
        rw [Bool.and_eq_true,Bool.or_eq_true,hcd] at hi
        exact hi.2.resolve_right hi0
       have h3:getA (adOf (compOp P nt o)) e (fun a=>adBlk (base+i) a fun ob=>Option.rec (motive:=fun _=>R) (evOp (compOp P nt o) (base+i) ph e H fun v H'=>setD d v e fun e'=>evFreg ph n0 r' e' H' fl st k)
        (fun b=>apartN (base+i) (bf.getD i 0) b fl (evOp (compOp P nt o) (base+i) ph e H fun v H'=>setD d v e fun e'=>evFreg ph n0 r' e' H' fl ((i,b) :: st) k)) ob)=1:=h1
       rw [getA_eq] at h3
       have h4:=adBlk_ok h3
       have hfr:=st_frame (id:=base+i) hst (ph:=ph) (e:=e) (H:=H)
       have fire:∀ (fl' st':List (Nat × Nat)),evOp (compOp P nt o) (base+i) ph e H (fun v H'=>setD d v e fun e'=>evFreg ph n0 r' e' H' fl' st' k)=1 → ∃ v H1,OpS P nt o e H v H1∧Fr (obOf (pgetA (adOf (compOp P nt o)) e)) H H1∧evFreg ph n0 r' (psetD d v e) H1 fl' st' k=1:=fun fl' st' hev=>by
        obtain ⟨⟨v,H1⟩,q1,q2,q3⟩:=hfr.get (k:=fun p:V × Heap=>setD d p.1 e fun e'=>evFreg ph n0 r' e' p.2 fl' st' k) hev
        obtain ⟨v',H',q4,q5⟩:=evOp_sound hph (P:=P) (nt:=nt) (o:=o) (id:=base+i) (e:=e) (H:=H) (k:=fun v' H'=>open Classical in if (v',H')=(v,H1) then 1 else 0) (by
         have:=q3 (fun p=>open Classical in if p=(v,H1) then 1 else 0)
         rw [show (fun v' H'=>open Classical in if (v',H')=(v,H1) then 1 else 0)=fun v' H'=>(fun p:V × Heap=>open Classical in if p=(v,H1) then (1:R) else 0) (v',H') from rfl,this]
         simp)
        have q6:(v',H')=(v,H1):=by
         by_cases hq:(v',H')=(v,H1)
         ·exact hq
         ·simp [hq] at q5
        cases q6
        have q2':setD d v e (fun e'=>evFreg ph n0 r' e' H1 fl' st' k)=1:=q2
        rw [setD_eq] at q2'
        exact ⟨v,H1,q4,q1,q2'⟩
       cases hob:obOf (pgetA (adOf (compOp P nt o)) e) with
       | none=>
        rw [hob] at h4
        obtain ⟨v,H1,q1,q2,q3⟩:=fire fl st h4
        rw [hob] at q2
        exact fin v H1 none fl st ⟨d,hd,rfl,Or.inr (Or.inr (Or.inl ⟨h2,hpf,his,q1⟩))⟩ (fun b hb=>by cases hb) (fun _ _ p hp hbit hlt=>q2 _ hlt (by simp)) (fun _ _ x b hx hxc _ hord hlt=>q2 _ hlt (by simp)) hfls (fun _ h=>h) (fun _ h=>h) (fun hl=>hnoI his hl) q3
       | some b0=>
        rw [hob] at h4
        obtain ⟨h7,h8⟩:=apartN_ok (show apartN (base+i) (bf.getD i 0) b0 fl _=1 from h4)
        obtain ⟨v,H1,q1,q2,q3⟩:=fire fl ((i,b0) :: st) h8
        rw [hob] at q2
        refine fin v H1 none fl ((i,b0) :: st) ⟨d,hd,rfl,Or.inr (Or.inr (Or.inl ⟨h2,hpf,his,q1⟩))⟩ (fun b hb=>by cases hb) (fun _ _ p hp hbit hlt=>q2 _ hlt ?_) (fun _ _ x b hx hxc hap hord hlt=>q2 _ hlt ?_) hfls (fun _ h=>h) (fun p hp=>List.mem_cons_of_mem _ hp) (fun hl=>hnoI his hl) q3
        ·intro e0
         cases e0
         exact h7 p hp hbit rfl
        ·intro e0
         cases e0
         unfold ordd at hord
         rw [Bool.or_eq_false_iff] at hord
         exact hap (i,b0) (List.mem_cons_self ..) hord.1 rfl
     ·have hisf:isoF cs bf i=false:=by simpa using his
      by_cases hlt:lateB cs bf i=true
      ·rw [show tagOf cs bf (compOp P nt o) i=4 by unfold tagOf;rw [if_neg hf,if_neg hpu,if_neg his,if_pos hlt]] at h1
       have hbx:=hla hlt
       have had:adOf (compOp P nt o) = .c .nils:=by cases hcc:compOp P nt o <;> rw [hcc] at hbx <;> first | rfl | cases hbx
       have h3:getA (adOf (compOp P nt o)) e (fun a=>adBlk (base+i) a fun ob=>Heap.rec (motive:=fun _=>R) (fun n wlo t=>evOp (compOp P nt o) (base+i) ph e (.mk n n t) fun v H'=>Heap.rec (motive:=fun _=>R) (fun n' wlo' t'=>ifB (Nat.ble n wlo') (closB (base+i) (HT.get t' n) (setD d v e fun e'=>evFreg ph n0 r' e' (.mk n' wlo t') ((i,n) :: fl) st k)) (no 0)) H') H)=1:=h1
       rw [getA_eq,had] at h3
       have h4:=adBlk_ok h3
       cases H with
       | mk n wlo t=>
        have h4':evOp (compOp P nt o) (base+i) ph e (.mk n n t) (fun v H'=>Heap.rec (motive:=fun _=>R) (fun n' wlo' t'=>ifB (Nat.ble n wlo') (closB (base+i) (HT.get t' n) (setD d v e fun e'=>evFreg ph n0 r' e' (.mk n' wlo t') ((i,n) :: fl) st k)) (no 0)) H')=1:=h4
        obtain ⟨bl,H1,hN,h5,hA⟩:=box_ok hbx h4'
        cases H1 with
        | mk n' wlo' t'=>
         have h5':ifB (Nat.ble n wlo') (closB (base+i) (HT.get t' n) (setD d (.ptr n 0) e fun e'=>evFreg ph n0 r' e' (.mk n' wlo t') ((i,n) :: fl) st k)) (no 0)=1:=h5
         obtain ⟨h6,h7⟩:=ifB_no h5'
         rw [show HT.get t' n = .cells bl from hN.get] at h7
         obtain ⟨hcl,h8⟩:=closB_ok h7
         rw [setD_eq] at h8
         have hN':NewTo (.mk n wlo t) (.cells bl) (.mk n' wlo t'):=⟨hN.n,rfl,hN.get,hN.oth⟩
         refine fin (.ptr n 0) (.mk n' wlo t') none ((i,n) :: fl) st ⟨d,hd,rfl,Or.inr (Or.inr (Or.inr ⟨h2,hpf,hisf, .mk n n t, .mk n' wlo' t',rfl,fun _=>rfl,rfl,(hA hcl _ _ hN).ops,ble_of h6,rfl,fun _=>rfl,rfl⟩))⟩ (fun b hb=>by cases hb) (fun hi=>absurd (hi.symm.trans hisf) (by simp)) (fun hi=>absurd (hi.symm.trans hisf) (by simp)) (fun p hp => ?_) (fun p hp=>List.mem_cons_of_mem _ hp) (fun _ h=>h) (fun _=>Or.inr ⟨hA hcl _ _ hN',List.mem_cons_self ..⟩) h8
         rcases List.mem_cons.1 hp with rfl | hp
         ·exact ⟨Nat.lt_succ_self i,_,hci,hpn⟩
         ·exact hfls p hp
      rw [show tagOf cs bf (compOp P nt o) i=1 by unfold tagOf;rw [if_neg hf,if_neg hpu,if_neg his,if_neg hlt]] at h1
      cases H with
      | mk n wlo t=>
       obtain ⟨v,H1,h3,h4⟩:=evOp_sound hph (show evOp (compOp P nt o) (base+i) ph e (.mk n n t) (fun v H'=>Heap.rec (motive:=fun _=>R) (fun n' wlo' t'=>ifB (Nat.ble n wlo') (setD d v e fun e'=>evFreg ph n0 r' e' (.mk n' wlo t') fl st k) (no 0)) H')=1 from h1)
       cases H1 with
       | mk n' wlo' t'=>
        have h4':ifB (Nat.ble n wlo') (setD d v e fun e'=>evFreg ph n0 r' e' (.mk n' wlo t') fl st k) (no 0)=1:=h4
        obtain ⟨h5,h6⟩:=ifB_no h4'
        rw [setD_eq] at h6
        exact fin v (.mk n' wlo t') none fl st ⟨d,hd,rfl,Or.inr (Or.inr (Or.inr ⟨h2,hpf,hisf, .mk n n t, .mk n' wlo' t',rfl,fun _=>rfl,rfl,h3,ble_of h5,rfl,fun _=>rfl,rfl⟩))⟩ (fun b hb=>by cases hb) (fun hi=>absurd (hi.symm.trans hisf) (by simp)) (fun hi=>absurd (hi.symm.trans hisf) (by simp)) hfls (fun _ h=>h) (fun _ h=>h) (fun hl=>absurd hl hlt) h6
  ·cases hc
end Go.Ev
end
section
namespace Go.Ev
open Go.RowKit
def M.meet (m1 m2:M):M:=⟨fun b c=>(∃ c',m1.b b c')∧m2.b b c,m2.z⟩
mutual
theorem VR.meet {m1 m2:M}:∀ (v:V) (c1 c2:Value),VR m1 v c1→VR m2 v c2→VR (m1.meet m2) v c2
 | .int ..,_,_,_,h=>by simpa only [VR] using h
 | .bool _,_,_,_,h=>by simpa only [VR] using h
 | .str ..,_,_,_,h=>by simpa only [VR] using h
 | .ptr ..,_,_,h1,h2=>by simp only [VR] at h1 h2 ⊢;obtain ⟨c,_,h3⟩:=h1;obtain ⟨c',h4,h5⟩:=h2;exact ⟨c',h4,⟨c,h3⟩,h5⟩
 | .nilp,_,_,_,h=>by simpa only [VR] using h
 | .slice ..,_,_,h1,h2=>by simp only [VR] at h1 h2 ⊢;obtain ⟨c,_,_,_,_,h3,_⟩:=h1;obtain ⟨c',cap,o',sp,h4,h5,h6⟩:=h2;exact ⟨c',cap,o',sp,h4,⟨⟨c,h3⟩,h5⟩,h6⟩
 | .nils,_,_,_,h=>by simpa only [VR] using h
 | .map _,_,_,h1,h2=>by simp only [VR] at h1 h2 ⊢;obtain ⟨c,_,h3⟩:=h1;obtain ⟨c',h4,h5⟩:=h2;exact ⟨c',h4,⟨c,h3⟩,h5⟩
 | .nilm,_,_,_,h=>by simpa only [VR] using h
 | .func _ l,_,_,h1,h2=>by simp only [VR] at h1 h2 ⊢;obtain ⟨c,_,h3⟩:=h1;obtain ⟨c',h4,h5⟩:=h2;exact ⟨c',h4,VRs.meet l _ _ h3 h5⟩
 | .yld _,_,_,h1,h2=>by simp only [VR] at h1 h2 ⊢;obtain ⟨c,_,h3⟩:=h1;obtain ⟨c',h4,h5⟩:=h2;exact ⟨c',h4,⟨c,h3⟩,h5⟩
 | .nilf,_,_,_,h=>by simpa only [VR] using h
 | .iface _ x,_,_,h1,h2=>by simp only [VR] at h1 h2 ⊢;obtain ⟨c,_,h3⟩:=h1;obtain ⟨c',h4,h5⟩:=h2;exact ⟨c',h4,VR.meet x _ _ h3 h5⟩
 | .nili,_,_,_,h=>by simpa only [VR] using h
 | .agg l,_,_,h1,h2=>by simp only [VR] at h1 h2 ⊢;obtain ⟨c,_,h3⟩:=h1;obtain ⟨c',h4,h5⟩:=h2;exact ⟨c',h4,VRs.meet l _ _ h3 h5⟩
 | .tup l,_,_,h1,h2=>by simp only [VR] at h1 h2 ⊢;obtain ⟨c,_,h3⟩:=h1;obtain ⟨c',h4,h5⟩:=h2;exact ⟨c',h4,VRs.meet l _ _ h3 h5⟩
theorem VRs.meet {m1 m2:M}:∀ (l:List V) (c1 c2:List Value),VRs m1 l c1→VRs m2 l c2→VRs (m1.meet m2) l c2
 | [],_,_,_,h=>by simpa only [VRs] using h
 | v :: l,_,_,h1,h2=>by
  simp only [VRs] at h1 h2 ⊢
  obtain ⟨c,r,_,h3,h4⟩:=h1
  obtain ⟨c',r',h5,h6,h7⟩:=h2
  exact ⟨c',r',h5,VR.meet v _ _ h3 h6,VRs.meet l _ _ h4 h7⟩
end
theorem BR.meet {P:Program} {m1 m2:M} {bl:Blk} {o1 o2:Obj} (h1:BR P m1 bl o1) (h2:BR P m2 bl o2):BR P (m1.meet m2) bl o2:=by
 cases bl with
 | dead=>trivial
 | cells l=>
  obtain ⟨c,e,fr,g1,⟨g2,g3⟩,_⟩:=h1
  obtain ⟨c',e',fr',k1,⟨k2,k3⟩,k4⟩:=h2
  refine ⟨c',e',fr',k1,⟨fun i v hi => ?_,k3⟩,k4⟩
  obtain ⟨a1,cv,a2,a3⟩:=g2 i v hi
  obtain ⟨b1,cv',b2,b3⟩:=k2 i v hi
  exact ⟨b1,cv',b2,VR.meet v _ _ a3 b3⟩
 | bytes len n=>exact h2
 | view l=>
  obtain ⟨c,e,fr,g1,g2⟩:=h1
  obtain ⟨c',e',fr',k1,k2⟩:=h2
  refine ⟨c',e',fr',k1,fun i v hi ho => ?_⟩
  obtain ⟨⟨cv,a2,a3⟩,a4⟩:=g2 i v hi ho
  obtain ⟨⟨cv',b2,b3⟩,b4⟩:=k2 i v hi ho
  exact ⟨⟨cv',b2,VR.meet v _ _ a3 b3⟩,b4⟩
 | map es=>
  obtain ⟨ents,clock,es1,g1,g4,g5,g6,g2,g3⟩:=h1
  obtain ⟨ents',clock',es2,k1,k4,k5,k6,k2,k3⟩:=h2
  have key:∀ (q:V × V→V) (c1 c2:List Value),VRs m1 (es1.map q) c1→VRs m2 (es2.map q) c2→VRs (m1.meet m2) (es2.map q) c2:=fun q c1 c2 v1 v2=>by
   refine VRs.of_get v2.length fun i v c hi hc => ?_
   rw [List.getElem?_map] at hi
   obtain ⟨p,hp,rfl⟩:=Option.map_eq_some_iff.1 hi
   have hm:q p ∈ es1.map q:=List.mem_map.2 ⟨p,(g4.trans k4.symm).mem_iff.2 (List.mem_of_getElem? hp),rfl⟩
   obtain ⟨c',_,hc'⟩:=v1.mem hm
   obtain ⟨c2',e1,e2⟩:=v2.get (i:=i) (v:=q p) (by rw [List.getElem?_map,hp];rfl)
   rw [hc] at e1
   cases e1
   exact VR.meet _ _ _ hc' e2
  exact ⟨ents',clock',es2,k1,k4,k5,k6,key _ _ _ g2 k2,key _ _ _ g3 k3⟩
 | mark=>exact h2
 | loop st jump e ps as bo=>
  obtain ⟨r,nt,fid,g1,g2,g3,g4,g5,g6,g7⟩:=h1
  obtain ⟨r',nt',fid',k1,k2,k3,k4,k5,k6,k7⟩:=h2
  refine ⟨r',nt',fid',k1,k2,k3,⟨k4.size,k4.le,fun t v hv => ?_,k4.rest⟩,k5,k6,k7⟩
  have h2:=k4.get t v hv
  have hlt:t<nt':=by rw [← k4.size];exact (Array.getElem?_eq_some_iff.1 hv).1
  by_cases htn:t<nt
  ·have hlt2:t<r.tmps.size:=by rw [g4.size];exact htn
   have hex:r.tmps[t]? = some r.tmps[t]:=Array.getElem?_eq_getElem hlt2
   exact VR.meet _ _ _ (g4.get t _ hex) h2
  ·have:=k4.le
   rw [g4.rest t (by omega) (by omega)] at h2 ⊢
   simp only [VR] at h2 ⊢
   obtain ⟨cs,h5,h6⟩:=h2
   exact ⟨cs,h5,by simpa only [VRs] using h6⟩
section
variable {P:Program} {base:Nat} {w0 w w':World} {rho rho':Nat→Option Nat} {H H1 H':Heap}
structure Part (H1 H:Heap):Prop where
 n:H1.n≤H.n
 get:∀ b,b<H1.n→H.get b=H1.get b
 out:∀ b,H1.n≤b→H1.get b = .dead
theorem Part.trans {H1 H2 H3:Heap} (h:Part H1 H2) (k:Part H2 H3):Part H1 H3:=
 ⟨Nat.le_trans h.n k.n,fun b hb=>(k.get b (Nat.lt_of_lt_of_le hb h.n)).trans (h.get b hb),h.out⟩
def cutAt (n:Nat) (rho:Nat→Option Nat):Nat→Option Nat:=fun b=>if b<n then rho b else none
theorem cutAt_some {n b c:Nat} (h:cutAt n rho b=some c):b<n∧rho b=some c:=by
 unfold cutAt at h
 split at h
 ·rename_i hb;exact ⟨hb,h⟩
 ·cases h
theorem cutAt_lt {n b:Nat} (h:b<n):cutAt n rho b=rho b:=if_pos h
def Kn (P:Program) (H:Heap) (b:Nat):Prop:=∃ m o,BR P m (H.get b) o ∧ ∀ b' c',m.b b' c'→b'<H.n
theorem PR.kn (h:PR P base w0 rho H w) {b c:Nat} (hr:rho b=some c):Kn P H b:=by
 obtain ⟨o,h1,h2⟩:=h.blk b c hr
 exact ⟨_,o,h2,fun b' c' hm=>hm.1⟩
theorem Kn.part {b:Nat} (h:Kn P H1 b) (hp:Part H1 H) (hb:b<H1.n):Kn P H b:=by
 obtain ⟨m,o,h1,h2⟩:=h
 exact ⟨m,o,by rw [hp.get b hb];exact h1,fun b' c' hm=>Nat.lt_of_lt_of_le (h2 b' c' hm) hp.n⟩
theorem meet_cut {m1:M} (hm:∀ b c,m1.b b c→b<H1.n) (hp:Part H1 H):(m1.meet (mu rho H w)).le (mu (cutAt H1.n rho) H1 w):=
 ⟨fun b c ⟨⟨c',h1⟩,h2⟩=>⟨hm _ _ h1,fun ha=>by
  rw [cutAt_lt (hm _ _ h1)]
  exact h2.2 (by rw [hp.get b (hm _ _ h1)];exact ha)⟩,fun _ _ h=>h⟩
theorem PR.part (h:PR P base w0 rho H w) (hp:Part H1 H) (hw:H1.wlo≤H1.n) (hk:∀ b c,rho b=some c→b<H1.n→Kn P H1 b):PR P base w0 (cutAt H1.n rho) H1 w where
 below:=h.below
 base_le:=h.base_le
 wn:=hw
 dom b c hr:=by
  obtain ⟨h1,h2⟩:=cutAt_some hr
  obtain ⟨_,h4,h5,h6⟩:=h.dom b c h2
  exact ⟨h1,h4,h5,by rw [← hp.get b h1];exact h6⟩
 inj b b' c h1 h2:=h.inj b b' c (cutAt_some h1).2 (cutAt_some h2).2
 blk b c hr:=by
  obtain ⟨h1,h2⟩:=cutAt_some hr
  obtain ⟨o,h3,h4⟩:=h.blk b c h2
  obtain ⟨m,o',h5,h6⟩:=hk b c h2 h1
  rw [hp.get b h1] at h4
  exact ⟨o,h3,(BR.meet h5 h4).mono (meet_cut h6 hp)⟩
 out b hb:=hp.out b hb
 gl:=⟨h.gl.1,h.gl.2.1,fun b c hr=>h.gl.2.2 b c (cutAt_some hr).2⟩
theorem PR.grow (h:PR P base w0 rho H w) (hp:Part H H') (hw:H'.wlo≤H'.n) (ho:∀ b,H'.n≤b→H'.get b = .dead):PR P base w0 rho H' w∧(mu rho H w).le (mu rho H' w):=by
 have hm:(mu rho H w).le (mu rho H' w):=⟨fun b c ⟨h1,h2⟩=>⟨Nat.lt_of_lt_of_le h1 hp.n,fun ha=>h2 (by rw [← hp.get b h1];exact ha)⟩,fun _ _ h=>h⟩
 refine ⟨⟨h.below,h.base_le,hw,fun b c hr => ?_,h.inj,fun b c hr => ?_,ho,h.gl⟩,hm⟩
 ·obtain ⟨h1,h2,h3,h4⟩:=h.dom b c hr
  exact ⟨Nat.lt_of_lt_of_le h1 hp.n,h2,h3,by rw [hp.get b h1];exact h4⟩
 ·obtain ⟨h1,_⟩:=h.dom b c hr
  obtain ⟨o,h3,h4⟩:=h.blk b c hr
  exact ⟨o,h3,by rw [hp.get b h1];exact h4.mono hm⟩
theorem PR.merge {Hi Hi' H1':Heap} (h:PR P base w0 rho H w) (hi:Part Hi H) (hi':Part Hi' H) (hii:Hi.n≤Hi'.n) (hno:∀ b c,rho b=some c→b<Hi.n∨Hi'.n≤b)
  (h1n:H1.n=Hi.n) (run:PR P base w0 rho' H1' w') (x:Ext (cutAt Hi.n rho) H1 w rho' H1' w') (hlo:Hi.n≤H1'.wlo) (hn':Hi'.n=H1'.n) (hg':∀ b,Hi'.get b=H1'.get b) {rho'':Nat→Option Nat} (hr'':rho''=fun b=>if b<Hi'.n then rho' b else rho b) :
  PR P base w0 rho'' H w'∧(mu rho H w).le (mu rho'' H w')∧(mu rho' H1' w').le (mu rho'' H w')∧(∀ b,b<Hi.n→rho'' b=rho b)∧(∀ b c,rho'' b=some c→rho b=some c∨(Hi.n≤b∧b<Hi'.n∧w.heap.size≤c∧rho' b=some c)) ∧ ∀ c,c<w.heap.size→w'.heap[c]? = w.heap[c]?:=by
 subst hr''
 have k1:∀ b,b<Hi.n→rho' b=rho b:=fun b hb=>by
  rw [(x.keep b (by omega) (by omega)).2,cutAt_lt hb]
 have k2:∀ b c,Hi.n≤b→rho' b=some c→w.heap.size≤c:=fun b c hb hr=>by
  rcases x.new b c (by omega) hr with h' | ⟨b0,h1,h2⟩
  ·exact h'
  ·have:=(cutAt_some h1).1;omega
 have k3:∀ c,c<w.heap.size→w'.heap[c]? = w.heap[c]?:=fun c hc=>x.fr c hc fun b hb=>Nat.lt_of_lt_of_le (cutAt_some hb).1 hlo
 have m1:(mu rho H w).le (mu (fun b=>if b<Hi'.n then rho' b else rho b) H w'):=by
  refine ⟨fun b c ⟨h1,h2⟩=>⟨h1,fun ha => ?_⟩,x.mu.2⟩
  have h3:=h2 ha
  show (if b<Hi'.n then rho' b else rho b)=some c
  rcases hno b c h3 with h4 | h4
  ·rw [if_pos (by omega),k1 b h4];exact h3
  ·rw [if_neg (by omega)];exact h3
 have m2:(mu rho' H1' w').le (mu (fun b=>if b<Hi'.n then rho' b else rho b) H w'):=by
  refine ⟨fun b c ⟨h1,h2⟩=>⟨?_,fun ha => ?_⟩,fun _ _ h=>h⟩
  ·have:=hi'.n;omega
  ·have hb:b<Hi'.n:=by omega
   show (if b<Hi'.n then rho' b else rho b)=some c
   rw [if_pos hb]
   exact h2 (by rw [← hg' b,← hi'.get b hb];exact ha)
 refine ⟨⟨run.below,run.base_le,h.wn,fun b c hr => ?_,fun b b' c hr hr' => ?_,fun b c hr => ?_,h.out,run.gl.1,run.gl.2.1,fun b c hr=>(show (if b<Hi'.n then rho' b else rho b)=some c → ¬ GB c from fun hr=>by
  split at hr
  ·exact run.gl.2.2 b c hr
  ·exact h.gl.2.2 b c hr) hr⟩,m1,m2,fun b hb => ?_,fun b c hr => ?_,k3⟩
 ·split at hr
  ·rename_i hb
   obtain ⟨h1,h2,h3,h4⟩:=run.dom b c hr
   exact ⟨Nat.lt_of_lt_of_le hb hi'.n,h2,h3,by rw [hi'.get b hb,hg' b];exact h4⟩
  ·obtain ⟨h1,h2,h3,h4⟩:=h.dom b c hr
   exact ⟨h1,h2,Nat.lt_of_lt_of_le h3 x.size,h4⟩
 ·have cross:∀ b b' c,b<Hi'.n → ¬ b'<Hi'.n→rho' b=some c→rho b'=some c→False:=fun b b' c g1 g2 g3 g4=>by
   have hd:=h.dom b' c g4
   by_cases hb:b<Hi.n
   ·rw [k1 b hb] at g3
    have:=h.inj b b' c g3 g4
    omega
   ·have:=k2 b c (by omega) g3
    omega
  split at hr <;> split at hr'
  ·exact run.inj b b' c hr hr'
  ·exact (cross b b' c ‹_› ‹_› hr hr').elim
  ·exact (cross b' b c ‹_› ‹_› hr' hr).elim
  ·exact h.inj b b' c hr hr'
 ·split at hr
  ·rename_i hb
   obtain ⟨o,h1,h2⟩:=run.blk b c hr
   exact ⟨o,h1,by rw [hi'.get b hb,hg' b];exact h2.mono m2⟩
  ·obtain ⟨o,h1,h2⟩:=h.blk b c hr
   exact ⟨o,(k3 c (h.dom b c hr).2.2.1).trans h1,h2.mono m1⟩
 ·show (if b<Hi'.n then rho' b else rho b)=rho b
  rw [if_pos (by omega),k1 b hb]
 ·replace hr:(if b<Hi'.n then rho' b else rho b)=some c:=hr
  split at hr
  ·rename_i hb
   by_cases hb1:b<Hi.n
   ·exact Or.inl ((k1 b hb1).symm.trans hr)
   ·exact Or.inr ⟨by omega,hb,k2 b c (by omega) hr,hr⟩
  ·exact Or.inl hr
theorem Ext.after {H0:Heap} {rho0 rho'':Nat→Option Nat} {w00:World} {m:Nat} (h:Ext rho0 H0 w00 rho H w) (hd0:∀ b c,rho0 b=some c→b<H0.n) (hc0:∀ b c,rho0 b=some c→c<w00.heap.size) (ho:∀ b,H0.n≤b→H0.get b = .dead) (hm:H0.n≤m) (h1:∀ b,b<m→rho'' b=rho b) (h2:∀ b c,rho'' b=some c→rho b=some c∨w.heap.size≤c) (h3:∀ c,c<w.heap.size→w'.heap[c]? = w.heap[c]?) (hs:w.heap.size≤w'.heap.size):Ext rho0 H0 w00 rho'' H w' where
 n:=h.n
 wlo:=h.wlo
 size:=Nat.le_trans h.size hs
 keep b hb hw:=⟨(h.keep b hb hw).1,(h1 b (by omega)).trans (h.keep b hb hw).2⟩
 old b c hb hr:=h.old b c hb (by rw [← h1 b (by omega)];exact hr)
 live b c hr ha:=by
  have hl:=h.live b c hr ha
  rw [h1 b (Nat.lt_of_lt_of_le (hd0 b c hr) hm)]
  exact hl
 nores:=h.nores
 new b c hb hr:=by
  rcases h2 b c hr with h' | h'
  ·exact h.new b c hb h'
  ·exact Or.inl (Nat.le_trans h.size h')
 fr c hc hb:=(h3 c (Nat.lt_of_lt_of_le hc h.size)).trans (h.fr c hc hb)
 marks b hb:=by
  have hbn:b<m:=by
   rcases Nat.lt_or_ge b H0.n with h' | h'
   ·omega
   ·rw [ho b h'] at hb;cases hb
  exact ⟨(h.marks b hb).1,(h1 b hbn).trans (h.marks b hb).2.1,fun c hc=>(h3 c (Nat.lt_of_lt_of_le (hc0 b c hc) h.size)).trans ((h.marks b hb).2.2 c hc)⟩
 rows c cs e fr hc:=by
  obtain ⟨cs',e',fr',g1,g2⟩:=h.rows c cs e fr hc
  exact ⟨cs',e',fr',(h3 c (Array.getElem?_eq_some_iff.1 g1).1).trans g1,g2⟩
 loops c r hc:=by
  obtain ⟨r',g1⟩:=h.loops c r hc
  exact ⟨r',(h3 c (Array.getElem?_eq_some_iff.1 g1).1).trans g1⟩
end
end Go.Ev
end
section
namespace Go.Ev
open Go.RowKit
theorem wpIn_some {rd:Option Nat} {P:Program} {o:Oper} {a:Act} {w:World} {K:Act→World→Prop} (h:o.wpIn (WF rd) 0 P a w K (fun _ _ _=>False)):∃ a' w',K a' w':=by
 have h:=h.2
 have hroom:∀ k,(WF rd).room k:=fun k=>by simp [Fence.room]
 generalize (o.semAt (WF rd).round a.eval).run P w=r at *
 cases r with
 | ok x w'=>
  cases x <;> simp only [Oper.uponIn] at h
  case value v=>exact ⟨_,_,h⟩
  case skip=>exact ⟨_,_,h⟩
  case defer d=>exact ⟨_,_,h⟩
  case enter f args=>
   obtain ⟨e,w'',fr,he,_⟩:=h.2.2 [] (hroom _)
   cases e with
   | returned u=>exact ⟨_,_,he⟩
   | panicked c=>exact he.elim
   | outgrown=>obtain ⟨_,_,h⟩:=he;exact h.elim
  case row row args=>
   obtain ⟨v,w'',he,_⟩:=h.2 default [] (hroom _)
   exact ⟨_,_,he⟩
  case round l f tmps assign body=>
   obtain ⟨e,w'',he,_⟩:=h.2.2 default [] (hroom _)
   cases e with
   | returned u=>exact ⟨_,_,he⟩
   | panicked c=>exact he.elim
   | outgrown=>obtain ⟨_,_,h⟩:=he;exact h.elim
 | halt x w'=>
  cases x <;> simp only [Oper.uponIn] at h
theorem M.le_trans {m1 m2 m3:M} (h:m1.le m2) (k:m2.le m3):m1.le m3:=⟨fun b c x=>k.1 _ _ (h.1 _ _ x),fun c z x=>k.2 _ _ (h.2 _ _ x)⟩
theorem dstOf_eq {nt:Nat} {x:Option Tmp} {d:Option Slot} (h:dstOf nt x=some d):d=x.map slotOf ∧ ∀ t,x=some t→t<nt:=by
 unfold dstOf at h
 split at h
 ·cases h;exact ⟨rfl,fun _ h=>by cases h⟩
 ·split at h
  ·rename_i hlt
   cases h
   exact ⟨rfl,fun t ht=>by cases ht;exact hlt⟩
  ·cases h
theorem TR.congr {m:M} {nt:Nat} {e e':Env} {tmps:Array Value} (h:TR m nt e tmps) (he:∀ s,pget s e'=pget s e):TR m nt e' tmps:=
 ⟨h.size,h.le,fun t v hv=>by rw [he];exact h.get t v hv,fun t h1 h2=>by rw [he];exact h.rest t h1 h2⟩
theorem or_at {m:M} {nt:Nat} {e e':Env} {a:Act} {o:Oper} {ops:Array Oper} (h:TR m nt e a.tmps) (he:∀ t,t ∈ o.looksAt ops→t<nt→pget (slotOf t) e=pget (slotOf t) e'):OR m nt e' a o:=fun x hx ar har=>by
 have h1:=compArg_ok h har
 have h2:pgetA ar e=pgetA ar e':=by
  unfold compArg at har
  split at har
  ·rename_i t
   split at har
   ·rename_i hlt
    cases har
    exact he t (List.mem_append_left _ (List.mem_filterMap.2 ⟨.tmp t,by simpa using hx,rfl⟩)) hlt
   ·cases har
  ·simp only [Option.map_eq_some_iff] at har
   obtain ⟨u,_,rfl⟩:=har
   rfl
  ·cases har;rfl
  ·cases har
 rw [← h2]
 exact h1
theorem gt_at {m:M} {nt:Nat} {e e':Env} {tmps:Array Value} {o:Oper} {ops:Array Oper} (h:TR m nt e tmps) (he:∀ t,t ∈ o.looksAt ops→t<nt→pget (slotOf t) e=pget (slotOf t) e'):GT nt m e' ops o tmps:=fun j b o' d h1 h2 h3 hlt=>by
 obtain ⟨v,h4,h5⟩:=h.gt ops o j b o' d h1 h2 h3 hlt
 refine ⟨v,h4, ?_⟩
 rw [← he d ?_ hlt]
 ·exact h5
 ·unfold Oper.looksAt
  refine List.mem_append_right _ ?_
  rw [h1]
  simp [h2,h3]
theorem ext_heap {rho:Nat→Option Nat} {H:Heap} {w w':World} (hd:∀ b c,rho b=some c→b<H.n) (h:w'.heap=w.heap):Ext rho H w rho H w':=
 ⟨Nat.le_refl _,Nat.le_refl _,by rw [h];exact Nat.le_refl _,fun _ _ _=>⟨rfl,rfl⟩,fun _ _ _ h=>h,fun _ _ h _=>h,fun _ _ h=>h,fun b c hb h=>absurd (hd b c h) (by omega),fun _ _ _=>by rw [h],fun b hb=>⟨hb,rfl,fun _ _=>by rw [h]⟩,fun c cs e fr hc=>⟨cs,e,fr,by rw [h];exact hc,rfl⟩,fun c r hc=>⟨r,by rw [h];exact hc⟩⟩
theorem ht_put (x:Blk):∀ (k:Nat) (t:HT),∃ t':HT,t'.get k=x ∧ ∀ j,j≠k→t'.get j=t.get j:=by
 intro k
 induction k using Nat.strongRecOn with
 | _ k ih=>
  intro t
  cases k with
  | zero=>
   cases t with
   | e=>exact ⟨.n x .e .e,rfl,fun j hj=>by
     cases j with
     | zero=>exact absurd rfl hj
     | succ j=>rw [HT.get_succ,HT.get_e,HT.get_e];simp [HT.get_e]⟩
   | n u l r=>exact ⟨.n x l r,rfl,fun j hj=>by
     cases j with
     | zero=>exact absurd rfl hj
     | succ j=>rw [HT.get_succ,HT.get_succ]⟩
  | succ k=>
   have go:∀ (u:Blk) (l r:HT),(∀ j,t.get j=HT.get (.n u l r) j) → ∃ t':HT,t'.get (k+1)=x ∧ ∀ j,j≠k+1→t'.get j=t.get j:=fun u l r ht=>by
    by_cases hk:k % 2=0
    ·obtain ⟨l',h1,h2⟩:=ih (k / 2) (by omega) l
     refine ⟨.n u l' r,by rw [HT.get_succ,if_pos hk];exact h1,fun j hj => ?_⟩
     rw [ht]
     cases j with
     | zero=>rfl
     | succ j=>
      rw [HT.get_succ,HT.get_succ]
      split
      ·exact h2 _ (by omega)
      ·rfl
    ·obtain ⟨r',h1,h2⟩:=ih (k / 2) (by omega) r
     refine ⟨.n u l r',by rw [HT.get_succ,if_neg hk];exact h1,fun j hj => ?_⟩
     rw [ht]
     cases j with
     | zero=>rfl
     | succ j=>
      rw [HT.get_succ,HT.get_succ]
      split
      ·rfl
      ·exact h2 _ (by omega)
   have he:∀ j,HT.get .e j=HT.get (.n .dead .e .e) j:=fun j=>by
    cases j with
    | zero=>rfl
    | succ j=>rw [HT.get_succ,HT.get_e,HT.get_e];simp
   cases t with
   | e=>exact go .dead .e .e he
   | n u l r=>exact go u l r fun _=>rfl
theorem ht_of (f:Nat→Blk):∀ N,∃ t:HT,∀ b,t.get b=if b<N then f b else .dead
 | 0=>⟨.e,fun b=>by simp [HT.get_e]⟩
 | N+1=>by
  obtain ⟨t,h⟩:=ht_of f N
  obtain ⟨t',h1,h2⟩:=ht_put (f N) N t
  refine ⟨t',fun b => ?_⟩
  by_cases hb:b=N
  ·subst hb;rw [h1,if_pos (by omega)]
  ·rw [h2 b hb,h b]
   by_cases hl:b<N
   ·rw [if_pos hl,if_pos (by omega)]
   ·rw [if_neg hl,if_neg (by omega)]
theorem heap_of (f:Nat→Blk) (N wlo:Nat):∃ H:Heap,H.n=N∧H.wlo=wlo∧(∀ b,b<N→H.get b=f b) ∧ ∀ b,N≤b→H.get b = .dead:=by
 obtain ⟨t,h⟩:=ht_of f N
 exact ⟨.mk N wlo t,rfl,rfl,fun b hb=>(h b).trans (if_pos hb),fun b hb=>(h b).trans (if_neg (by omega))⟩
theorem Ext.re {r0 rho rho':Nat→Option Nat} {H0 H H':Heap} {w00 w w':World} (h:Ext r0 H0 w00 rho H w) (hd0:∀ b c,r0 b=some c→b<H0.n) (hc0:∀ b c,r0 b=some c→c<w00.heap.size) (ho:∀ b,H0.n≤b→H0.get b = .dead)
  (hn:H0.n≤H'.n) (hw:H'.wlo=H.wlo) (hg:∀ b,b<H0.n→H'.get b=H.get b) (hr:∀ b,b<H0.n→rho' b=rho b) (hnew:∀ b c,H0.n≤b→rho' b=some c→rho b=some c∨w00.heap.size≤c)
  (hf:∀ c,c<w00.heap.size→w'.heap[c]? = w.heap[c]?) (hs:w00.heap.size≤w'.heap.size):Ext r0 H0 w00 rho' H' w' where
 n:=hn
 wlo:=by rw [hw];exact h.wlo
 size:=hs
 keep b hb hlo:=⟨(hg b hb).trans (h.keep b hb (by omega)).1,(hr b hb).trans (h.keep b hb (by omega)).2⟩
 old b c hb hx:=h.old b c hb (by rw [← hr b hb];exact hx)
 live b c hx ha:=by
  have hb:=hd0 b c hx
  rw [hr b hb]
  exact h.live b c hx (by rw [← hg b hb];exact ha)
 nores b hb ha:=h.nores b hb (by rw [← hg b hb];exact ha)
 new b c hb hx:=by
  rcases hnew b c hb hx with h' | h'
  ·rcases h.new b c hb h' with h1 | ⟨b0,h1,h2⟩
   ·exact Or.inl h1
   ·exact Or.inr ⟨b0,h1,by omega⟩
  ·exact Or.inl h'
 fr c hc hx:=(hf c hc).trans (h.fr c hc fun b hb=>by have:=hx b hb;omega)
 marks b hb:=by
  have hlt:b<H0.n:=by
   rcases Nat.lt_or_ge b H0.n with h' | h'
   ·exact h'
   ·rw [ho b h'] at hb;cases hb
  obtain ⟨h1,h2,h3⟩:=h.marks b hb
  exact ⟨(hg b hlt).trans h1,(hr b hlt).trans h2,fun c hc=>(hf c (hc0 b c hc)).trans (h3 c hc)⟩
 rows c cs e fr hc:=by
  obtain ⟨cs',e',fr',h1,h2⟩:=h.rows c cs e fr hc
  exact ⟨cs',e',fr',(hf c (Array.getElem?_eq_some_iff.1 hc).1).trans h1,h2⟩
 loops c r hc:=by
  obtain ⟨r',h1⟩:=h.loops c r hc
  exact ⟨r',(hf c (Array.getElem?_eq_some_iff.1 hc).1).trans h1⟩
section
variable {P:Program} {nt:Nat} {ops:Array Oper} {iso pur:Nat→Bool} {E:Nat→Env} {Hh:Nat→Heap} {Vv:Nat→V} {B:Nat→Option Nat}
def Hard (iso pur:Nat→Bool) (i:Nat):Prop:=iso i=true∧pur i=false
structure Heaps (n:Nat) (iso pur:Nat→Bool) (Hh:Nat→Heap):Prop where
 wn:∀ i,i≤n→(Hh i).wlo≤(Hh i).n
 out:∀ i,i≤n → ∀ b,(Hh i).n≤b→(Hh i).get b = .dead
 le:∀ i,i<n→(Hh i).n≤(Hh (i+1)).n∧(Hh (i+1)).wlo≤(Hh i).wlo
 mild:∀ i,i<n → ¬ Hard iso pur i→Part (Hh i) (Hh (i+1))∧(Hh (i+1)).wlo=(Hh i).wlo
theorem text_run (hst:∀ j o,ops[j]? = some o→StepOK P nt ops (iso j) (pur j) (B j) o (E j) (Hh j) (Vv j) (E (j+1)) (Hh (j+1))) {base:Nat} {w0:World} {rho:Nat→Option Nat} {w:World} {a:Act} (hp:PR P base w0 rho (Hh 0) w) (ht:TR (mu rho (Hh 0) w) nt (E 0) a.tmps) :
  ∀ i,i≤ops.size→(∃ (rho':Nat→Option Nat) (w':World) (a':Act),PR P base w0 rho' (Hh i) w'∧TR (mu rho' (Hh i) w') nt (E i) a'.tmps) ∧ ∀ j,j<i→(Hh j).n≤(Hh (j+1)).n∧(Hh (j+1)).wlo≤(Hh j).wlo∧(¬ Hard iso pur j→Part (Hh j) (Hh (j+1))∧(Hh (j+1)).wlo=(Hh j).wlo):=by
 intro i
 induction i with
 | zero=>exact fun _=>⟨⟨rho,w,a,hp,ht⟩,fun j hj=>by omega⟩
 | succ i ih=>
  intro hi
  obtain ⟨⟨rho1,w1,a1,p1,t1⟩,h1⟩:=ih (by omega)
  have hlt:i<ops.size:=by omega
  have ho:ops[i]? = some ops[i]:=Array.getElem?_eq_getElem hlt
  obtain ⟨d,hd,he,hs⟩:=hst i _ ho
  have key:(∃ (rho':Nat→Option Nat) (w':World) (a':Act),PR P base w0 rho' (Hh (i+1)) w'∧TR (mu rho' (Hh (i+1)) w') nt (E (i+1)) a'.tmps)∧(Hh i).n≤(Hh (i+1)).n∧(Hh (i+1)).wlo≤(Hh i).wlo∧(¬ Hard iso pur i→Part (Hh i) (Hh (i+1))∧(Hh (i+1)).wlo=(Hh i).wlo):=by
   have hself:Part (Hh i) (Hh i):=⟨Nat.le_refl _,fun _ _=>rfl,p1.out⟩
   rcases hs with ⟨_,hv,hH⟩ | ⟨_,_,hH,hop⟩ | ⟨_,hpu,his,hop⟩ | ⟨_,_,_,H1,H1',g1,g2,g3,hop,g4,g5,g6,g7⟩
   ·rw [hH,he,hv]
    exact ⟨⟨rho1,w1,a1.put (ops[i]).dst undef,p1,put_ok t1 hd vr_undef⟩,Nat.le_refl _,Nat.le_refl _,fun _=>⟨hself,rfl⟩⟩
   ·obtain ⟨a2,w2,cv,rfl,rho2,v2,p2,x2⟩:=wpIn_some (hop (Hh i) (fun _ _=>rfl) none base w0 rho1 w1 a1 p1 (t1.or _))
    rw [hH,he]
    exact ⟨⟨rho2,w2,_,p2,put_ok (t1.mono x2.mu) hd v2⟩,Nat.le_refl _,Nat.le_refl _,fun _=>⟨hself,rfl⟩⟩
   ·obtain ⟨a2,w2,cv,rfl,rho2,v2,p2,x2⟩:=wpIn_some (hop none base w0 rho1 w1 a1 p1 (t1.or _))
    rw [he]
    exact ⟨⟨rho2,w2,_,p2,put_ok (t1.mono x2.mu) hd v2⟩,x2.n,x2.wlo,fun hn=>absurd ⟨his,hpu⟩ hn⟩
   ·have p1':PR P base w0 rho1 H1 w1:=p1.remark g1 g2 (by omega)
    have m1:(mu rho1 (Hh i) w1).le (mu rho1 H1 w1):=⟨fun b c ⟨h1,h2⟩=>⟨by omega,fun ha=>h2 (by rw [← g2];exact ha)⟩,fun _ _ h=>h⟩
    obtain ⟨a2,w2,cv,rfl,rho2,v2,p2,x2⟩:=wpIn_some (hop none base w0 rho1 w1 a1 p1' ((t1.mono m1).or _))
    have hn:(Hh i).n≤(Hh (i+1)).n:=by have:=x2.n;omega
    have p3:PR P base w0 rho2 (Hh (i+1)) w2:=p2.remark g5 g6 (by have:=p1.wn;omega)
    have m3:(mu rho2 H1' w2).le (mu rho2 (Hh (i+1)) w2):=⟨fun b c ⟨h1,h2⟩=>⟨by omega,fun ha=>h2 (by rw [← g6];exact ha)⟩,fun _ _ h=>h⟩
    rw [he]
    refine ⟨⟨rho2,w2,_,p3,put_ok ((t1.mono m1).mono (M.le_trans x2.mu m3)) hd (VR.mono m3 _ _ v2)⟩,hn,by omega,fun _=>⟨⟨hn,fun b hb => ?_,p1.out⟩,g7⟩⟩
    rw [g6,(x2.keep b (by omega) (by omega)).1,g2]
  refine ⟨key.1,fun j hj => ?_⟩
  by_cases hji:j=i
  ·subst hji;exact key.2
  ·exact h1 j (by omega)
theorem bat {n:Nat} (h:Heaps n iso pur Hh):∀ T,T≤n → ∀ k,k≤T→(∀ j,k≤j→j<T → ¬ Hard iso pur j)→Part (Hh k) (Hh T)∧(Hh T).wlo=(Hh k).wlo:=by
 intro T
 induction T with
 | zero=>
  intro hT k hk _
  have:k=0:=by omega
  subst this
  exact ⟨⟨Nat.le_refl _,fun _ _=>rfl,h.out 0 hT⟩,rfl⟩
 | succ T ih=>
  intro hT k hk hj
  by_cases hkT:k=T+1
  ·subst hkT;exact ⟨⟨Nat.le_refl _,fun _ _=>rfl,h.out _ hT⟩,rfl⟩
  ·obtain ⟨h1,h2⟩:=ih (by omega) k (by omega) fun j h1 h2=>hj j h1 (by omega)
   obtain ⟨h3,h4⟩:=h.mild T (by omega) (hj T (by omega) (by omega))
   exact ⟨h1.trans h3,h4.trans h2⟩
theorem mono_n {n:Nat} (h:Heaps n iso pur Hh):∀ T,T≤n → ∀ k,k≤T→(Hh k).n≤(Hh T).n∧(Hh T).wlo≤(Hh k).wlo:=by
 intro T
 induction T with
 | zero=>
  intro hT k hk
  have:k=0:=by omega
  subst this
  exact ⟨Nat.le_refl _,Nat.le_refl _⟩
 | succ T ih=>
  intro hT k hk
  by_cases hkT:k=T+1
  ·subst hkT;exact ⟨Nat.le_refl _,Nat.le_refl _⟩
  ·obtain ⟨h1,h2⟩:=ih (by omega) k (by omega)
   obtain ⟨h3,h4⟩:=h.le T (by omega)
   exact ⟨by omega,by omega⟩
theorem next_hard (iso pur:Nat→Bool) (n:Nat):∀ m T,n-T=m→T≤n → ∃ T',T≤T'∧T'≤n∧(T'<n→Hard iso pur T') ∧ ∀ j,T≤j→j<T' → ¬ Hard iso pur j:=by
 intro m
 induction m with
 | zero=>intro T h1 h2;exact ⟨T,Nat.le_refl _,h2,fun h=>by omega,fun j h3 h4=>by omega⟩
 | succ m ih=>
  intro T h1 h2
  by_cases hh:Hard iso pur T
  ·exact ⟨T,Nat.le_refl _,h2,fun _=>hh,fun j h3 h4=>by omega⟩
  ·obtain ⟨T',h3,h4,h5,h6⟩:=ih (T+1) (by omega) (by omega)
   exact ⟨T',by omega,h4,h5,fun j h7 h8=>by
    by_cases hj:j=T
    ·subst hj;exact hh
    ·exact h6 j (by omega) h8⟩
def dOf (ops:Array Oper) (k:Nat):Option Slot:=(ops[k]?.bind (·.dst)).map slotOf
structure Mid (P:Program) (nt:Nat) (ops:Array Oper) (iso pur al:Nat→Bool) (E:Nat→Env) (Hh:Nat→Heap) (Vv:Nat→V) (base:Nat) (w0:World) (rho0:Nat→Option Nat) (w00:World) (ds:List Deferred) (listed:Array Bool) (a:Act) (w:World) (T:Nat) (rho:Nat→Option Nat) (Hx:Heap):Prop where
 size:listed.size=ops.size
 closed:Closed ops listed
 le:T≤ops.size
 hard:T<ops.size→Hard iso pur T
 not:¬ Been listed T
 been:∀ i,i<T→Hard iso pur i→Been listed i
 xn:Hx.n=(Hh ops.size).n
 xw:Hx.wlo=(Hh T).wlo
 xlo:∀ b,b < (Hh T).n→Hx.get b=(Hh T).get b
 xhi:∀ b,(Hh T).n≤b→b<Hx.n→(Hx.get b).alive
 pr:PR P base w0 rho Hx w
 ext:Ext rho0 (Hh 0) w00 rho Hx w
 tr:TR (mu rho Hx w) nt (envS (dOf ops) Vv (E 0) (fun k=>listed.getD k false) ops.size) a.tmps
 defers:a.defers=ds
 bound:∀ b c,rho b=some c → ∀ k,k<T → ¬ Been listed k → ¬ ((Hh k).n≤b∧b < (Hh (k+1)).n)
 kn:∀ b c,rho b=some c → ∀ k,k≤T→(∀ j,k≤j→j<T → ¬ Hard iso pur j)→b < (Hh k).n→Kn P (Hh k) b
 pend:∀ b c,rho b=some c→(Hh T).n≤b→w00.heap.size≤c ∧ ∃ i,T≤i∧i<ops.size∧Been listed i∧al i=true∧b=(Hh i).n ∧ ∃ (bl:Blk) (ob:Obj),NewTo (Hh i) bl (Hh (i+1))∧bl.alive∧(∀ m,BR P m bl ob)∧Hx.get b=bl
section walk
variable {al:Nat→Bool} {base:Nat} {w0:World} {rho0:Nat→Option Nat} {w00:World} {ds:List Deferred} {rd:Option Nat} {Q:Exit→Act→World→Prop}
 (hst:∀ j o,ops[j]? = some o→StepOK P nt ops (iso j) (pur j) (B j) o (E j) (Hh j) (Vv j) (E (j+1)) (Hh (j+1)))
 (hE:Edges ops) (hap:apartOK ops (Region.before ops)=true)
 (hiso:∀ i j,Hard iso pur i→i≠j→pur j=false→j<ops.size→((Region.before ops).getD i 0).testBit j=true∨((Region.before ops).getD j 0).testBit i=true∨al j=true)
 (hhal:∀ i,Hard iso pur i→al i=false)
 (hal:∀ i o,ops[i]? = some o→al i=true→(GW nt (E i) ops o false∧Vv i = .tup []∧Hh (i+1)=Hh i)∨(AlOK P nt (E i) o (Hh i) (Vv i) (Hh (i+1)) ∧ ∀ k,k<ops.size→Hard iso pur k→i<k→ordd (Region.before ops) i k=false→(Hh i).n < (Hh k).n→(Hh (k+1)).get (Hh i).n=(Hh k).get (Hh i).n))
 (hhp:Heaps ops.size iso pur Hh) (hnt:nt≤512) (hd0:∀ b c,rho0 b=some c→b < (Hh 0).n) (hc0:∀ b c,rho0 b=some c→c<w00.heap.size)
 (hB:∀ i b,i<ops.size→B i=some b→b < (Hh 0).n)
 (hkp:∀ i k b,i<ops.size→k<ops.size→B i=some b→Hard iso pur k→ordd (Region.before ops) i k=false→b < (Hh k).n→(Hh (k+1)).get b=(Hh k).get b)
 (hke:∀ i,i<ops.size → ∀ t,t<nt → ∃ m c,VR m (pget (slotOf t) (E i)) c ∧ ∀ b c',m.b b c'→b < (Hh i).n)
 (hQ:∀ a' w' rho',a'.defers=ds→PR P base w0 rho' (Hh ops.size) w'→TR (mu rho' (Hh ops.size) w') nt (E ops.size) a'.tmps→Ext rho0 (Hh 0) w00 rho' (Hh ops.size) w'→Q .normal a' w')
include hst in
theorem e_step:∀ k,k<ops.size→E (k+1)=psetD (dOf ops k) (Vv k) (E k):=fun k hk=>by
 have ho:ops[k]? = some ops[k]:=Array.getElem?_eq_getElem hk
 obtain ⟨d,hd,he,_⟩:=hst k _ ho
 rw [he,(dstOf_eq hd).1]
 simp [dOf,ho]
include hst hnt in
theorem dOf_inj {k t:Nat} (hk:k<ops.size) (ht:t<nt) (h:dOf ops k=some (slotOf t)):∃ o,ops[k]? = some o∧o.dst=some t:=by
 have ho:ops[k]? = some ops[k]:=Array.getElem?_eq_getElem hk
 obtain ⟨d,hd,he,_⟩:=hst k _ ho
 obtain ⟨h1,h2⟩:=dstOf_eq hd
 refine ⟨_,ho, ?_⟩
 unfold dOf at h
 rw [ho,Option.bind_some,Option.map_eq_some_iff] at h
 obtain ⟨t',h3,h4⟩:=h
 have:=h2 t' h3
 rw [h3,slotOf_inj (Nat.lt_of_lt_of_le this hnt) (Nat.lt_of_lt_of_le ht hnt) h4]
include hst hE hap hnt in
theorem view {listed:Array Bool} {i:Nat} {o:Oper} (hC:Closed ops listed) (ho:ops[i]? = some o) (hi:¬ Been listed i) (hr:∀ e ∈ o.after.toList,Region.binds .any e=true→Been listed e.on) {t:Nat} (ht:t ∈ namesOf ops o) (hlt:t<nt) :
  pget (slotOf t) (envS (dOf ops) Vv (E 0) (fun k=>listed.getD k false) ops.size)=pget (slotOf t) (E i):=by
 have hin:i<ops.size:=(Array.getElem?_eq_some_iff.1 ho).1
 refine envS_at (Nat.le_of_lt hin) (e_step hst) fun k hk hd => ?_
 obtain ⟨ok,hok,hdk⟩:=dOf_inj hst hnt hk hlt hd
 by_cases hki:k=i
 ·subst hki
  exact ⟨fun h=>absurd h hi,fun h=>by omega⟩
 ·have h1:=apart_of hap hok ho hki hdk ht
  split at h1
  ·rename_i h2
   exact ⟨fun _=>h2,fun _=>before_been hE hC i k (Or.inr fun o' ho'=>by rw [ho] at ho';cases ho';exact hr) h1⟩
  ·rename_i h2
   exact ⟨fun hs=>absurd (before_been hE hC k i (Or.inl hs) h1) hi,fun h=>absurd h h2⟩
include hst hE hap hnt in
theorem tmps_put {listed:Array Bool} {i:Nat} {o:Oper} (hsz:listed.size=ops.size) (hC:Closed ops listed) (ho:ops[i]? = some o) (hi:¬ Been listed i) {m:M} {a:Act} {cv:Value} (ht:TR m nt (envS (dOf ops) Vv (E 0) (fun k=>listed.getD k false) ops.size) a.tmps) (hv:VR m (Vv i) cv) :
  TR m nt (envS (dOf ops) Vv (E 0) (fun k=>(listed.setIfInBounds i true).getD k false) ops.size) (a.put o.dst cv).tmps:=by
 have hin:i<ops.size:=(Array.getElem?_eq_some_iff.1 ho).1
 obtain ⟨d,hd,_⟩:=hst i _ ho
 have hdo:dOf ops i=d:=by rw [(dstOf_eq hd).1];simp [dOf,ho]
 refine (put_ok ht hd hv).congr fun s => ?_
 rw [← hdo]
 refine envS_put hin (by simpa [Been] using hi) (fun k=>been_set (by omega)) (fun k hk hik hs s' h1 h2 => ?_) s
 unfold dOf at h1 h2
 have hok:ops[k]? = some ops[k]:=Array.getElem?_eq_getElem hk
 rw [hok,Option.bind_some,Option.map_eq_some_iff] at h1
 rw [ho,Option.bind_some,Option.map_eq_some_iff] at h2
 obtain ⟨tk,h3,h4⟩:=h1
 obtain ⟨ti,h5,h6⟩:=h2
 obtain ⟨dk,hdk,_⟩:=hst k _ hok
 have hti:=(dstOf_eq hd).2 ti h5
 have htk:=(dstOf_eq hdk).2 tk h3
 have:ti=tk:=slotOf_inj (Nat.lt_of_lt_of_le hti hnt) (Nat.lt_of_lt_of_le htk hnt) (h6.trans h4.symm)
 subst this
 have h7:=apart_of hap ho hok (by omega) h5 (show ti ∈ namesOf ops ops[k] from List.mem_append_left _ (by simp [h3]))
 rw [if_pos hik] at h7
 exact hi (before_been hE hC k i (Or.inl hs) h7)
theorem closed_set {listed:Array Bool} {i:Nat} {o:Oper} (hi:i<listed.size) (hC:Closed ops listed) (ho:ops[i]? = some o) (hr:∀ e ∈ o.after.toList,Region.binds .any e=true→Been listed e.on):Closed ops (listed.setIfInBounds i true):=fun j hj o' ho' e he hb=>by
 rw [been_set hi] at hj ⊢
 rcases hj with rfl | hj
 ·rw [ho] at ho';cases ho'
  exact Or.inr (hr e he hb)
 ·exact Or.inr (hC j hj o' ho' e he hb)
theorem count_set {l:List Bool} {i:Nat} (hi:l[i]? = some false):(l.set i true).count false+1=l.count false:=by
 have hlt:i<l.length:=(List.getElem?_eq_some_iff.1 hi).1
 have hv:l[i]=false:=(List.getElem?_eq_some_iff.1 hi).2
 rw [List.count_set hlt,hv]
 have:0<l.count false:=List.count_pos_iff.2 (by rw [← hv];exact List.getElem_mem hlt)
 simp
 omega
include hst hE hap hiso hhal hal hhp hnt hd0 hc0 hke hB hkp hQ in
theorem walk (h0out:∀ b,(Hh 0).n≤b→(Hh 0).get b = .dead):∀ (fuel:Nat) (listed:Array Bool) (a:Act) (w:World) (T:Nat) (rho:Nat→Option Nat) (Hx:Heap),Mid P nt ops iso pur al E Hh Vv base w0 rho0 w00 ds listed a w T rho Hx→listed.toList.count false=fuel→wpAnyIn (WF rd) 0 P .any ops Q fuel listed a w:=by
 have hN:∀ T,T≤ops.size→(Hh T).n≤(Hh ops.size).n:=fun T hT=>(mono_n hhp ops.size (Nat.le_refl _) T hT).1
 have h0N:∀ T,T≤ops.size→(Hh 0).n≤(Hh T).n:=fun T hT=>(mono_n hhp T hT 0 (Nat.zero_le _)).1
 have fin:∀ (listed:Array Bool) (a:Act) (w:World) (T:Nat) (rho:Nat→Option Nat) (Hx:Heap),Mid P nt ops iso pur al E Hh Vv base w0 rho0 w00 ds listed a w T rho Hx→(∀ i,i<ops.size→Been listed i)→Q .normal a w:=fun listed a w T rho Hx hM hall=>by
  have hT:T=ops.size:=by
   rcases Nat.lt_or_ge T ops.size with h | h
   ·exact absurd (hall T h) hM.not
   ·have:=hM.le;omega
  subst hT
  have hg:∀ b,(Hh ops.size).get b=Hx.get b:=fun b=>by
   rcases Nat.lt_or_ge b (Hh ops.size).n with h | h
   ·exact (hM.xlo b h).symm
   ·rw [hhp.out _ (Nat.le_refl _) b h,hM.pr.out b (by rw [hM.xn];exact h)]
  have hm:(mu rho Hx w).le (mu rho (Hh ops.size) w):=⟨fun b c hx=>⟨by rw [← hM.xn];exact hx.1,by rw [hg];exact hx.2⟩,fun _ _ h=>h⟩
  refine hQ a w rho hM.defers (hM.pr.remark hM.xn.symm hg (hhp.wn _ (Nat.le_refl _))) ((hM.tr.mono hm).congr fun s => ?_) (hM.ext.re hd0 hc0 h0out (h0N _ (Nat.le_refl _)) hM.xw.symm (fun b _=>hg b) (fun _ _=>rfl) (fun b c _ h=>Or.inl h) (fun _ _=>rfl) hM.ext.size)
  exact (envS_at (Nat.le_refl _) (e_step hst) fun k hk _=>⟨fun _=>hk,fun _=>hall k hk⟩).symm
 have hready:∀ (listed:Array Bool),Region.ready .any ops listed=[]→listed.size=ops.size → ∀ i,i<ops.size→Been listed i:=fun listed hr hsz i=>by
  induction i using Nat.strongRecOn with
  | _ i ih=>
   intro hi
   by_cases hb:Been listed i
   ·exact hb
   ·have ho:ops[i]? = some ops[i]:=Array.getElem?_eq_getElem hi
    have hmem:i ∈ Region.ready .any ops listed:=mem_ready.2 ⟨by
     have hex:listed[i]? = some listed[i]:=Array.getElem?_eq_getElem (by omega)
     unfold Been at hb
     rw [Array.getD_eq_getD_getElem?,hex] at hb ⊢
     simpa using hb,_,ho,fun e he hbd=>ih e.on (hE i _ ho e (by simpa using he) hbd) (by have:=hE i _ ho e (by simpa using he) hbd;omega)⟩
    rw [hr] at hmem
    cases hmem
 intro fuel
 induction fuel with
 | zero=>
  intro listed a w T rho Hx hM hc
  have hall:∀ i,i<ops.size→Been listed i:=fun i hi=>by
   have hlt:i<listed.size:=by rw [hM.size];exact hi
   have hex:listed[i]? = some listed[i]:=Array.getElem?_eq_getElem hlt
   unfold Been
   rw [Array.getD_eq_getD_getElem?,hex,Option.getD_some]
   cases hv:listed[i] with
   | true=>rfl
   | false=>
    have:false ∈ listed.toList:=by rw [← hv];simp
    rw [List.count_eq_zero] at hc
    exact absurd this hc
  refine ⟨?_,fin listed a w T rho Hx hM hall⟩
  refine List.eq_nil_iff_forall_not_mem.2 fun i hi => ?_
  obtain ⟨h1,o,ho,_⟩:=mem_ready.1 hi
  have hb:=hall i (Array.getElem?_eq_some_iff.1 ho).1
  have hlt:i<listed.size:=by rw [hM.size];exact (Array.getElem?_eq_some_iff.1 ho).1
  have hex:listed[i]? = some listed[i]:=Array.getElem?_eq_getElem hlt
  unfold Been at hb
  rw [Array.getD_eq_getD_getElem?,hex,Option.getD_some] at hb h1
  rw [hb] at h1
  cases h1
 | succ fuel ih=>
  intro listed a w T rho Hx hM hc
  refine ⟨fun hr=>fin listed a w T rho Hx hM (hready listed hr hM.size),fun i hi => ?_⟩
  obtain ⟨h1,o,ho,hr0⟩:=mem_ready.1 hi
  have hin:i<ops.size:=(Array.getElem?_eq_some_iff.1 ho).1
  have hil:i<listed.size:=by rw [hM.size];exact hin
  have hex:listed[i]? = some listed[i]:=Array.getElem?_eq_getElem hil
  have hv:listed[i]=false:=by rw [Array.getD_eq_getD_getElem?,hex,Option.getD_some] at h1;exact h1
  have hnb:¬ Been listed i:=by unfold Been;rw [Array.getD_eq_getD_getElem?,hex,Option.getD_some,hv];simp
  have hr:∀ e ∈ o.after.toList,Region.binds .any e=true→Been listed e.on:=fun e he hb=>hr0 e (by simpa using he) hb
  have hc':(listed.setIfInBounds i true).toList.count false=fuel:=by
   have:=count_set (l:=listed.toList) (i:=i) (by simpa [hv] using hex)
   rw [Array.toList_setIfInBounds]
   omega
  have hsz':(listed.setIfInBounds i true).size=ops.size:=by simpa using hM.size
  have hC':=closed_set hil hM.closed ho hr
  have hview:∀ t,t ∈ o.looksAt ops→t<nt→pget (slotOf t) (envS (dOf ops) Vv (E 0) (fun k=>listed.getD k false) ops.size)=pget (slotOf t) (E i):=fun t ht hlt=>view hst hE hap hnt hM.closed ho hnb hr (List.mem_append_right _ ht) hlt
  have hgt:GT nt (mu rho Hx w) (E i) ops o a.tmps:=gt_at hM.tr hview
  have hor:OR (mu rho Hx w) nt (E i) a o:=or_at hM.tr hview
  have hput:∀ {m:M} {cv:Value},TR m nt (envS (dOf ops) Vv (E 0) (fun k=>listed.getD k false) ops.size) a.tmps→VR m (Vv i) cv→TR m nt (envS (dOf ops) Vv (E 0) (fun k=>(listed.setIfInBounds i true).getD k false) ops.size) (a.put o.dst cv).tmps:=fun ht hv=>tmps_put hst hE hap hnt hM.size hM.closed ho hnb ht hv
  have hbi:∀ k,((Region.before ops).getD i 0).testBit k=true→Been listed k:=fun k hk=>before_been hE hM.closed i k (Or.inr fun o' ho'=>by rw [ho] at ho';cases ho';exact hr) hk
  have hTn:∀ j,j≠T→pur j=false→j<ops.size→T<ops.size → ¬ Been listed j→(∀ k,((Region.before ops).getD j 0).testBit k=true→Been listed k)→j<T∨(al j=true∧T<j):=fun j h2 h3 h4 h5 h6 h7=>by
   rcases hiso T j (hM.hard h5) (Ne.symm h2) h3 h4 with h8 | h8 | h8
   ·exact Or.inl (before_lt hE T j h8)
   ·exact absurd (h7 T h8) hM.not
   ·rcases Nat.lt_or_ge j T with hjT | hjT
    ·exact Or.inl hjT
    ·exact Or.inr ⟨h8,by omega⟩
  have hpx:Part (Hh T) Hx:=⟨by rw [hM.xn];exact hN T hM.le,hM.xlo,hhp.out T hM.le⟩
  have low:∀ (H1:Heap),Part H1 Hx→(Hh i).n≤H1.n→OR (mu (cutAt H1.n rho) H1 w) nt (E i) a o:=fun H1 hp1 hn1 x hx ar har=>by
   have v2:=hor x hx ar har
   have hkn:∃ m c,VR m (pgetA ar (E i)) c ∧ ∀ b c',m.b b c'→b<H1.n:=by
    unfold compArg at har
    split at har
    ·split at har
     ·rename_i t ht
      cases har
      obtain ⟨m,c,q1,q2⟩:=hke i hin t ht
      exact ⟨m,c,q1,fun b c' hm=>Nat.lt_of_lt_of_le (q2 b c' hm) hn1⟩
     ·cases har
    ·simp only [Option.map_eq_some_iff] at har
     obtain ⟨u,hu,rfl⟩:=har
     exact ⟨⟨fun _ _=>False,fun _ _=>False⟩,_,constV_ok hu,fun _ _ h=>h.elim⟩
    ·cases har
     exact ⟨⟨fun _ _=>False,fun _ _=>False⟩,_,by simp only [pgetA,VR];exact ⟨#[],rfl,by simp only [VRs]⟩,fun _ _ h=>h.elim⟩
    ·cases har
   obtain ⟨m,c,q1,q2⟩:=hkn
   exact VR.mono (meet_cut q2 hp1) _ _ (VR.meet _ _ _ q1 v2)
  obtain ⟨d,hd,he,hs⟩:=hst i o ho
  unfold wpOpIn
  simp only [ho]
  by_cases hh:Hard iso pur i
  ·have hiT:i=T:=by
    by_cases hiT:i=T
    ·exact hiT
    ·exfalso
     have hlt:i<T:=by
      rcases Nat.lt_or_ge T ops.size with h | h
      ·rcases hTn i hiT hh.2 hin h hnb hbi with h' | h'
       ·exact h'
       ·have h'':=h'.1;rw [hhal i hh] at h'';cases h''
      ·omega
     exact hnb (hM.been i hlt hh)
   subst hiT
   have prT:PR P base w0 (cutAt (Hh i).n rho) (Hh i) w:=hM.pr.part hpx (hhp.wn i hM.le) fun b c hr hb=>hM.kn b c hr i (Nat.le_refl _) (fun j h1 h2=>by omega) hb
   have orT:=low (Hh i) hpx (Nat.le_refl _)
   have adv:∀ (rho':Nat→Option Nat) (w':World) (cv:Value),PR P base w0 rho' (Hh (i+1)) w'→Ext (cutAt (Hh i).n rho) (Hh i) w rho' (Hh (i+1)) w'→VR (mu rho' (Hh (i+1)) w') (Vv i) cv→wpAnyIn (WF rd) 0 P .any ops Q fuel (listed.setIfInBounds i true) (a.put o.dst cv) w':=fun rho' w' cv p1 x1 v1=>by
    obtain ⟨T',t1,t2,t3,t4⟩:=next_hard iso pur ops.size _ (i+1) rfl hin
    obtain ⟨b1,b2⟩:=bat hhp T' t2 (i+1) t1 t4
    have hiN:=(mono_n hhp (i+1) (by omega) i (by omega)).1
    obtain ⟨Hy,y1,y2,y3,y4⟩:=heap_of (fun b=>if b < (Hh T').n then (Hh T').get b else Hx.get b) (Hh ops.size).n (Hh T').wlo
    have wait:∀ b c,rho b=some c→(Hh i).n≤b→(Hh (i+1)).n≤b∧w00.heap.size≤c ∧ ∃ i0,i+1≤i0∧i0<ops.size∧Been listed i0∧al i0=true∧b=(Hh i0).n ∧ ∃ (bl:Blk) (ob:Obj),NewTo (Hh i0) bl (Hh (i0+1))∧bl.alive∧(∀ m,BR P m bl ob)∧Hx.get b=bl:=fun b c hr hb=>by
     obtain ⟨g0,i0,g1,g2,g3,g4,g5,g6⟩:=hM.pend b c hr hb
     have hne:i0≠i:=fun h=>by subst h;rw [hhal _ hh] at g4;cases g4
     have hle:i+1≤i0:=by omega
     exact ⟨by rw [g5];exact (mono_n hhp i0 (by omega) (i+1) hle).1,g0,i0,hle,g2,g3,g4,g5,g6⟩
    have pnd:∀ b c,rho b=some c→(Hh i).n≤b→Hy.get b=Hx.get b∧b < (Hh ops.size).n∧w'.heap[c]? = w.heap[c]? ∧ ∀ b0,rho' b0≠some c:=fun b c hr hb=>by
     obtain ⟨_,_,i0,g1,g2,_,_,g5,bl,ob,g6,_,_,g7⟩:=wait b c hr hb
     have hbN:b < (Hh ops.size).n:=by
      have:=hN (i0+1) (by omega)
      have:=g6.n
      omega
     have hcs:=(hM.pr.dom b c hr).2.2.1
     refine ⟨?_,hbN,x1.fr c hcs fun b0 hb0 => ?_,fun b0 hb0 => ?_⟩
     ·rw [y3 b hbN]
      split
      ·rename_i hlt
       have h2:i0+1≤T':=by
        rcases Nat.lt_or_ge i0 T' with h | h
        ·exact h
        ·have:=(mono_n hhp i0 (by omega) T' h).1;omega
       obtain ⟨q1,_⟩:=bat hhp T' t2 (i0+1) h2 fun j h3 h4=>t4 j (by omega) h4
       rw [q1.get b (by have:=g6.n;omega),g7,g5,g6.get]
      ·rfl
     ·obtain ⟨h3,h4⟩:=cutAt_some hb0
      have:=hM.pr.inj b0 b c h4 hr
      omega
     ·rcases Nat.lt_or_ge b0 (Hh i).n with h | h
      ·have h3:=(cutAt_some (x1.old b0 c h hb0)).2
       have:=hM.pr.inj b0 b c h3 hr
       omega
      ·rcases x1.new b0 c h hb0 with h3 | ⟨b2,h3,_⟩
       ·omega
       ·obtain ⟨h4,h5⟩:=cutAt_some h3
        have:=hM.pr.inj b2 b c h5 hr
        omega
    have hTN:=hN T' t2
    have hyget:∀ b,b < (Hh (i+1)).n→Hy.get b=(Hh (i+1)).get b:=fun b hb=>by
     have:=b1.n
     rw [y3 b (by omega),if_pos (by omega),b1.get b hb]
    generalize hrho2:(fun b=>if b < (Hh (i+1)).n then rho' b else rho b)=rho2
    have r2lo:∀ b,b < (Hh (i+1)).n→rho2 b=rho' b:=fun b hb=>by rw [← hrho2];exact if_pos hb
    have r2hi:∀ b,(Hh (i+1)).n≤b→rho2 b=rho b:=fun b hb=>by rw [← hrho2];exact if_neg (by omega)
    have m1:(mu rho' (Hh (i+1)) w').le (mu rho2 Hy w'):=⟨fun b c ⟨g1,g2⟩=>⟨by rw [y1];have:=b1.n;omega,fun ha=>by rw [r2lo b g1];exact g2 (by rw [← hyget b g1];exact ha)⟩,fun _ _ h=>h⟩
    have mX:(mu rho Hx w).le (mu rho2 Hy w'):=by
     refine ⟨fun b c ⟨g1,g2⟩ => ?_,x1.mu.2⟩
     rcases Nat.lt_or_ge b (Hh i).n with h | h
     ·exact m1.1 b c (x1.mu.1 b c ⟨h,fun ha=>by rw [cutAt_lt h];exact g2 (by rw [hM.xlo b h];exact ha)⟩)
     ·have hr:=g2 (hM.xhi b h g1)
      exact ⟨by rw [y1,← hM.xn];exact g1,fun _=>by rw [r2hi b (wait b c hr h).1];exact hr⟩
    have cross:∀ b b' c,rho' b=some c→rho b'=some c→(Hh (i+1)).n≤b'→False:=fun b b' c h1 h2 h3=>(pnd b' c h2 (by omega)).2.2.2 b h1
    have p2:PR P base w0 rho2 Hy w':=by
     refine ⟨p1.below,p1.base_le,by rw [y1,y2];have:=hhp.wn T' t2;omega,fun b c hrb => ?_,fun b b' c h1 h2 => ?_,fun b c hrb => ?_,fun b hb=>y4 b (by rw [← y1];exact hb),p1.gl.1,p1.gl.2.1,fun b c hrb=>by
      rcases Nat.lt_or_ge b (Hh (i+1)).n with h | h
      ·rw [r2lo b h] at hrb;exact p1.gl.2.2 b c hrb
      ·rw [r2hi b h] at hrb;exact hM.pr.gl.2.2 b c hrb⟩
     ·rcases Nat.lt_or_ge b (Hh (i+1)).n with h | h
      ·rw [r2lo b h] at hrb
       obtain ⟨g1,g2,g3,g4⟩:=p1.dom b c hrb
       exact ⟨by rw [y1];have:=b1.n;omega,g2,g3,by rw [hyget b h];exact g4⟩
      ·rw [r2hi b h] at hrb
       obtain ⟨g1,g2,g3,g4⟩:=hM.pr.dom b c hrb
       exact ⟨by rw [y1,← hM.xn];exact g1,g2,Nat.lt_of_lt_of_le g3 x1.size,by rw [(pnd b c hrb (by omega)).1];exact g4⟩
     ·rcases Nat.lt_or_ge b (Hh (i+1)).n with h | h <;> rcases Nat.lt_or_ge b' (Hh (i+1)).n with h' | h'
      ·rw [r2lo b h] at h1;rw [r2lo b' h'] at h2;exact p1.inj b b' c h1 h2
      ·rw [r2lo b h] at h1;rw [r2hi b' h'] at h2;exact (cross b b' c h1 h2 h').elim
      ·rw [r2hi b h] at h1;rw [r2lo b' h'] at h2;exact (cross b' b c h2 h1 h).elim
      ·rw [r2hi b h] at h1;rw [r2hi b' h'] at h2;exact hM.pr.inj b b' c h1 h2
     ·rcases Nat.lt_or_ge b (Hh (i+1)).n with h | h
      ·rw [r2lo b h] at hrb
       obtain ⟨ob,g1,g2⟩:=p1.blk b c hrb
       exact ⟨ob,g1,by rw [hyget b h];exact g2.mono m1⟩
      ·rw [r2hi b h] at hrb
       obtain ⟨ob,g1,g2⟩:=hM.pr.blk b c hrb
       obtain ⟨q1,_,q2,_⟩:=pnd b c hrb (by omega)
       exact ⟨ob,by rw [q2];exact g1,by rw [q1];exact g2.mono mX⟩
    have e1:Ext rho0 (Hh 0) w00 (cutAt (Hh i).n rho) (Hh i) w:=hM.ext.re hd0 hc0 h0out (h0N i hM.le) hM.xw.symm (fun b hb=>(hM.xlo b (by have:=h0N i hM.le;omega)).symm) (fun b hb=>cutAt_lt (by have:=h0N i hM.le;omega)) (fun b c _ h=>Or.inl (cutAt_some h).2) (fun _ _=>rfl) hM.ext.size
    have e2:=Ext.trans hd0 e1 x1
    have h01:=h0N (i+1) (by omega)
    have x3:Ext rho0 (Hh 0) w00 rho2 Hy w':=e2.re hd0 hc0 h0out (by rw [y1];exact h0N _ (Nat.le_refl _)) (by rw [y2,b2]) (fun b hb=>hyget b (by omega)) (fun b hb=>r2lo b (by omega)) (fun b c hb hr=>by
     rcases Nat.lt_or_ge b (Hh (i+1)).n with h | h
     ·exact Or.inl (by rw [← r2lo b h];exact hr)
     ·rw [r2hi b h] at hr
      exact Or.inr (wait b c hr (by omega)).2.1) (fun _ _=>rfl) e2.size
    refine ih _ _ _ T' rho2 Hy ⟨hsz',hC',t2,t3,fun hb => ?_,fun j hj hjh => ?_,y1,y2,fun b hb=>by rw [y3 b (by omega),if_pos hb],fun b hb hb' => ?_,p2,x3,hput (hM.tr.mono mX) (VR.mono m1 _ _ v1),(put_defers _ _ _).trans hM.defers,fun b c hrb k hk hnk => ?_,fun b c hrb k hk hkj hbk => ?_,fun b c hrb hb => ?_⟩ hc'
    ·rw [been_set hil] at hb
     rcases hb with hb | hb
     ·omega
     ·rcases Nat.lt_or_ge T' ops.size with h | h
      ·have hp:=t3 h
       rcases hiso T' i hp (by omega) hh.2 hin with h8 | h8 | h8
       ·exact hnb (before_been hE hM.closed T' i (Or.inl hb) h8)
       ·have:=before_lt hE i T' h8;omega
       ·rw [hhal i hh] at h8;cases h8
      ·unfold Been at hb
       rw [Array.getD_eq_getD_getElem?,Array.getElem?_eq_none (by rw [hM.size];exact h)] at hb
       simp at hb
    ·rw [been_set hil]
     by_cases hji:j=i
     ·exact Or.inl hji
     ·rcases Nat.lt_or_ge j i with h | h
      ·exact Or.inr (hM.been j h hjh)
      ·exact absurd hjh (t4 j (by omega) hj)
    ·rw [y1] at hb'
     rw [y3 b hb',if_neg (by omega)]
     exact hM.xhi b (by have:=b1.n;omega) (by rw [hM.xn];exact hb')
    ·rw [been_set hil] at hnk
     have hki:k≠i:=fun h=>hnk (Or.inl h)
     rintro ⟨g1,g2⟩
     rcases Nat.lt_or_ge b (Hh (i+1)).n with hb | hb
     ·rw [r2lo b hb] at hrb
      rcases Nat.lt_or_ge k i with h | h
      ·have hn1:=(mono_n hhp i hM.le (k+1) (by omega)).1
       exact hM.bound b c (cutAt_some (x1.old b c (by omega) hrb)).2 k h (fun h=>hnk (Or.inr h)) ⟨g1,g2⟩
      ·have hn1:=(mono_n hhp k (by omega) (i+1) (by omega)).1
       omega
     ·rw [r2hi b hb] at hrb
      obtain ⟨_,_,i0,q1,q2,q3,_,q5,bl,ob,q6,_⟩:=wait b c hrb (by omega)
      have hk0:k≠i0:=fun h=>hnk (Or.inr (h ▸ q3))
      have:=q6.n
      rcases Nat.lt_or_ge k i0 with h | h
      ·have:=(mono_n hhp i0 (by omega) (k+1) (by omega)).1;omega
      ·have:=(mono_n hhp k (by omega) (i0+1) (by omega)).1;omega
    ·rcases Nat.lt_or_ge b (Hh (i+1)).n with hb | hb
     ·rw [r2lo b hb] at hrb
      rcases Nat.lt_or_ge i k with h | h
      ·exact (p1.kn hrb).part (bat hhp k (by omega) (i+1) h fun j h1 h2=>t4 j h1 (by omega)).1 hb
      ·exact absurd hh (hkj i h (by omega))
     ·rw [r2hi b hb] at hrb
      obtain ⟨_,_,i0,q1,q2,_,_,q5,bl,ob,q6,_,q7,_⟩:=wait b c hrb (by omega)
      have hk1:i0+1≤k:=by
       rcases Nat.lt_or_ge i0 k with h | h
       ·exact h
       ·have:=(mono_n hhp i0 (by omega) k h).1;omega
      obtain ⟨q8,_⟩:=bat hhp k (by omega) (i0+1) hk1 fun j h3 h4=>t4 j (by omega) (by omega)
      exact ⟨⟨fun _ _=>False,fun _ _=>False⟩,ob,by rw [q8.get b (by have:=q6.n;omega),q5,q6.get];exact q7 _,fun _ _ h=>h.elim⟩
    ·have hb1:(Hh (i+1)).n≤b:=by have:=b1.n;omega
     rw [r2hi b hb1] at hrb
     obtain ⟨_,q0,i0,q1,q2,q3,q4,q5,bl,ob,q6,q7,q8,q9⟩:=wait b c hrb (by omega)
     refine ⟨q0,i0, ?_,q2,(been_set hil).2 (Or.inr q3),q4,q5,bl,ob,q6,q7,q8,by rw [(pnd b c hrb (by omega)).1];exact q9⟩
     rcases Nat.lt_or_ge i0 T' with h | h
     ·have:=(mono_n hhp T' t2 (i0+1) h).1
      have:=q6.n
      omega
     ·exact h
   rcases hs with ⟨hw,hv,hH⟩ | ⟨_,hpu,_⟩ | ⟨hw,hpu,his,hop⟩ | ⟨_,_,his,_⟩
   ·simp only [hw _ _ hgt,Bool.false_eq_true,if_false]
    refine ⟨fun _ _=>trivial,adv (cutAt (Hh i).n rho) w undef (by rw [hH];exact prT) (by rw [hH];exact Ext.refl prT.lt) (by rw [hv];exact vr_undef)⟩
   ·rw [hh.2] at hpu;cases hpu
   ·simp only [hw _ _ hgt,if_true]
    refine wpIn_lift (hop rd base w0 _ w a prT orT) fun a1 w1 hk => ?_
    obtain ⟨cv,rfl,rho1,v1,p1,x1⟩:=hk
    exact adv rho1 w1 cv p1 x1 v1
   ·rw [hh.1] at his;cases his
  ·have hiT:i≠T:=fun h=>by subst h;exact hh (hM.hard hin)
   have hnot':¬ Been (listed.setIfInBounds i true) T:=fun h=>by
    rw [been_set hil] at h
    exact h.elim (fun h=>hiT h.symm) hM.not
   have hbeen':∀ j,j<T→Hard iso pur j→Been (listed.setIfInBounds i true) j:=fun j hj hjh=>by rw [been_set hil];exact Or.inr (hM.been j hj hjh)
   have adv:∀ (rho':Nat→Option Nat) (w':World) (cv:Value),PR P base w0 rho' Hx w'→Ext rho0 (Hh 0) w00 rho' Hx w'→(mu rho Hx w).le (mu rho' Hx w')→VR (mu rho' Hx w') (Vv i) cv→(∀ b c,rho' b=some c→rho b=some c∨(i<T∧(∀ j,i≤j→j<T → ¬ Hard iso pur j)∧(Hh i).n≤b∧b < (Hh (i+1)).n∧Kn P (Hh (i+1)) b))→wpAnyIn (WF rd) 0 P .any ops Q fuel (listed.setIfInBounds i true) (a.put o.dst cv) w':=fun rho' w' cv p1 x1 m1 v1 hb=>by
    refine ih _ _ _ T rho' Hx ⟨hsz',hC',hM.le,hM.hard,hnot',hbeen',hM.xn,hM.xw,hM.xlo,hM.xhi,p1,x1,hput (hM.tr.mono m1) v1,(put_defers _ _ _).trans hM.defers,fun b c hrb k hk hnk => ?_,fun b c hrb k hk hkj hbk => ?_,fun b c hrb hbT => ?_⟩ hc'
    ·rw [been_set hil] at hnk
     rcases hb b c hrb with h | ⟨h1,_,h2,h3,_⟩
     ·exact hM.bound b c h k hk fun h=>hnk (Or.inr h)
     ·rintro ⟨g1,g2⟩
      have hki:k≠i:=fun h=>hnk (Or.inl h)
      have hTs:=hM.le
      rcases Nat.lt_or_ge k i with h | h
      ·have:=(mono_n hhp i (by omega) (k+1) (by omega)).1;omega
      ·have:=(mono_n hhp k (by omega) (i+1) (by omega)).1;omega
    ·rcases hb b c hrb with h | ⟨h1,h0,h2,h3,h4⟩
     ·exact hM.kn b c h k hk hkj hbk
     ·have hTs:=hM.le
      have hik:i+1≤k:=by
       rcases Nat.lt_or_ge i k with h | h
       ·exact h
       ·have:=(mono_n hhp i (by omega) k h).1;omega
      exact h4.part (bat hhp k (by omega) (i+1) hik fun j g1 g2=>h0 j (by omega) (by omega)).1 h3
    ·rcases hb b c hrb with h | ⟨h1,_,_,h3,_⟩
     ·obtain ⟨q0,i0,q1,q2,q3,q4⟩:=hM.pend b c h hbT
      exact ⟨q0,i0,q1,q2,(been_set hil).2 (Or.inr q3),q4⟩
     ·have hTs:=hM.le
      have:=(mono_n hhp T hTs (i+1) h1).1
      omega
   rcases hs with ⟨hw,hv,hH⟩ | ⟨hw,hpu,hH,hop⟩ | ⟨hw,hpu,his,hop⟩ | ⟨hw,hpu,his,H1,H1',g1,g2,g3,hop,g4,g5,g6,g7⟩
   ·simp only [hw _ _ hgt,Bool.false_eq_true,if_false]
    exact ⟨fun _ _=>trivial,adv rho w undef hM.pr hM.ext ⟨fun _ _ h=>h,fun _ _ h=>h⟩ (by rw [hv];exact vr_undef) fun b c h=>Or.inl h⟩
   ·simp only [hw _ _ hgt,if_true]
    have hget:∀ b,B i=some b → ∀ hi lo,lo≤hi→hi≤ops.size→(∀ k,lo≤k→k<hi→Hard iso pur k→ordd (Region.before ops) i k=false)→(Hh hi).get b=(Hh lo).get b:=fun b hb hi=>by
     induction hi with
     | zero=>
      intro lo h1 _ _
      rw [show lo=0 by omega]
     | succ k ihk=>
      intro lo h1 h2 h3
      by_cases hlk:lo=k+1
      ·rw [hlk]
      ·have hbn:b < (Hh k).n:=by
        have:=hB i b hin hb
        have:=(mono_n hhp k (by omega) 0 (Nat.zero_le _)).1
        omega
       rw [← ihk lo (by omega) (by omega) fun q g1 g2=>h3 q g1 (by omega)]
       by_cases hhk:Hard iso pur k
       ·exact hkp i k b hin (by omega) hb hhk (h3 k (by omega) (by omega) hhk) hbn
       ·exact (hhp.mild k (by omega) hhk).1.get b hbn
    have hok:∀ b,B i=some b→Hx.get b=(Hh i).get b:=fun b hb=>by
     have hbT:b < (Hh T).n:=by
      have:=hB i b hin hb
      have:=h0N T hM.le
      omega
     rw [hM.xlo b hbT]
     rcases Nat.lt_or_ge i T with hlt | hge
     ·refine hget b hb T i (by omega) hM.le fun k g1 g2 g3 => ?_
      have hki:k≠i:=fun h=>by subst h;rw [g3.2] at hpu;cases hpu
      have hbk:=hM.been k g2 g3
      unfold ordd
      rw [Bool.or_eq_false_iff]
      refine ⟨?_, ?_⟩
      ·cases hx:((Region.before ops).getD i 0).testBit k with
       | false=>rfl
       | true=>have:=before_lt hE i k hx;omega
      ·cases hx:((Region.before ops).getD k 0).testBit i with
       | false=>rfl
       | true=>exact absurd (before_been hE hM.closed k i (Or.inl hbk) hx) hnb
     ·refine (hget b hb i T hge (by omega) fun k g1 g2 g3 => ?_).symm
      have hnk:¬ Been listed k:=fun hbk=>by
       by_cases hkT:k=T
       ·subst hkT;exact hM.not hbk
       ·rcases hiso T k (hM.hard (by omega)) (Ne.symm hkT) g3.2 (by omega) with h8 | h8 | h8
        ·have:=before_lt hE T k h8;omega
        ·exact hM.not (before_been hE hM.closed k T (Or.inl hbk) h8)
        ·rw [hhal k g3] at h8;cases h8
      unfold ordd
      rw [Bool.or_eq_false_iff]
      refine ⟨?_, ?_⟩
      ·cases hx:((Region.before ops).getD i 0).testBit k with
       | false=>rfl
       | true=>exact absurd (hbi k hx) hnk
      ·cases hx:((Region.before ops).getD k 0).testBit i with
       | false=>rfl
       | true=>have:=before_lt hE k i hx;omega
    refine wpIn_lift (hop Hx hok rd base w0 rho w a hM.pr hor) fun a1 w1 hk => ?_
    obtain ⟨cv,rfl,rho1,v1,p1,x1⟩:=hk
    exact adv rho1 w1 cv p1 (Ext.trans hd0 hM.ext x1) x1.mu v1 fun b c h=>Or.inl (x1.old b c (p1.lt b c h) h)
   ·exact absurd ⟨his,hpu⟩ hh
   ·simp only [hw _ _ hgt,if_true]
    by_cases hno:i<T ∧ ∀ j,i≤j→j<T → ¬ Hard iso pur j
    ·obtain ⟨hlt,hno⟩:=hno
     obtain ⟨b1',b2⟩:=bat hhp T hM.le i (by omega) hno
     obtain ⟨b3',b4⟩:=bat hhp T hM.le (i+1) hlt fun j h2 h3=>hno j (by omega) h3
     have b1:=b1'.trans hpx
     have b3:=b3'.trans hpx
     have hnn:=(hhp.le i hin).1
     have hp1:Part H1 Hx:=⟨by rw [g1];exact b1.n,fun b hb=>by rw [g2];exact b1.get b (by omega),fun b hb=>by rw [g2];exact b1.out b (by omega)⟩
     have pc:PR P base w0 (cutAt H1.n rho) H1 w:=hM.pr.part hp1 (by omega) fun b c hrb hb=>by
      obtain ⟨m,o',q1,q2⟩:=hM.kn b c hrb i (by omega) hno (by omega)
      exact ⟨m,o',by rw [g2];exact q1,fun b' c' hm=>by rw [g1];exact q2 b' c' hm⟩
     have oc:OR (mu (cutAt H1.n rho) H1 w) nt (E i) a o:=low H1 hp1 (by omega)
     refine wpIn_lift (hop rd base w0 _ w a pc oc) fun a1 w1 hk => ?_
     obtain ⟨cv,rfl,rho1,v1,p1,x1⟩:=hk
     rw [g1] at x1
     obtain ⟨p2,m1,m2,e1,e2,e3⟩:=hM.pr.merge (Hi:=Hh i) (Hi':=Hh (i+1)) b1 b3 hnn (fun b c hrb=>by
      rcases Nat.lt_or_ge b (Hh T).n with hbT | hbT
      ·have:=hM.bound b c hrb i hlt hnb
       omega
      ·have:=b3'.n
       omega) g1 p1 x1 g4 g5 g6 rfl
     have hN0:=(mono_n hhp i (by omega) 0 (Nat.zero_le _)).1
     refine adv _ w1 cv p2 (hM.ext.after hd0 hc0 (hhp.out 0 (Nat.zero_le _)) hN0 e1 (fun b c h=>(e2 b c h).imp id fun h=>h.2.2.1) e3 x1.size) m1 (VR.mono m2 _ _ v1) fun b c h => ?_
     rcases e2 b c h with h | ⟨h2,h3,h4,h5⟩
     ·exact Or.inl h
     ·refine Or.inr ⟨hlt,hno,h2,h3, ?_⟩
      obtain ⟨m,o',q1,q2⟩:=p1.kn h5
      exact ⟨m,o',by rw [g6];exact q1,fun b' c' hm=>by rw [g5];exact q2 b' c' hm⟩
    ·have hali:al i=true:=by
      rcases (show i<T∨(al i=true∧T<i) by
       rcases Nat.lt_or_ge T ops.size with h | h
       ·exact hTn i hiT hpu hin h hnb hbi
       ·exact Or.inl (by omega)) with hlt | ⟨h,_⟩
      ·by_cases ha:al i=true
       ·exact ha
       ·exact absurd ⟨hlt,fun j h2 h3 hj=>by
         have hbj:=hM.been j h3 hj
         have hji:j≠i:=fun h=>by subst h;exact hnb hbj
         rcases hiso j i hj hji hpu hin with h8 | h8 | h8
         ·exact hnb (before_been hE hM.closed j i (Or.inl hbj) h8)
         ·have:=before_lt hE i j h8;omega
         ·exact ha h8⟩ hno
      ·exact h
     rcases hal i o ho hali with ⟨hw2,_⟩ | ⟨⟨bl,k1,k2,k3,_,k4⟩,klate⟩
     ·have h1:=hw _ _ hgt
      rw [hw2 _ _ hgt] at h1
      cases h1
     obtain ⟨ob,k4,k5⟩:=k4 _ a hor
     refine wpIn_lift (k5 rd w) fun a1 w1 hk => ?_
     obtain ⟨rfl,rfl⟩:=hk
     have hcase:T<i∨(i<T ∧ ∀ k,i+1≤k→k≤T→(Hh k).get (Hh i).n=bl):=by
      rcases Nat.lt_or_ge T i with h | h
      ·exact Or.inl h
      ·refine Or.inr ⟨by omega,fun k => ?_⟩
       induction k with
       | zero=>intro h1 _;omega
       | succ k ihk=>
        intro h1 h2
        by_cases hki:k=i
        ·subst hki;exact k2.get
        ·have hTs:=hM.le
         have hnk:(Hh i).n < (Hh k).n:=by
          have:=(mono_n hhp k (by omega) (i+1) (by omega)).1
          have:=k2.n
          omega
         rw [← ihk (by omega) (by omega)]
         by_cases hhk:Hard iso pur k
         ·refine klate k (by omega) hhk (by omega) ?_ hnk
          have hbk:=hM.been k (by omega) hhk
          unfold ordd
          rw [Bool.or_eq_false_iff]
          refine ⟨?_, ?_⟩
          ·cases hx:((Region.before ops).getD i 0).testBit k with
           | false=>rfl
           | true=>have:=before_lt hE i k hx;omega
          ·cases hx:((Region.before ops).getD k 0).testBit i with
           | false=>rfl
           | true=>exact absurd (before_been hE hM.closed k i (Or.inl hbk) hx) hnb
         ·exact (hhp.mild k (by omega) hhk).1.get _ hnk
     have hearly:T<i→(Hh T).n≤(Hh i).n:=fun h=>(mono_n hhp i (by omega) T (by omega)).1
     have hlateN:i<T→(Hh i).n < (Hh T).n:=fun h=>by
      have:=(mono_n hhp T hM.le (i+1) (by omega)).1
      have:=k2.n
      omega
     have hb0N:(Hh i).n < (Hh ops.size).n:=by
      have:=hN (i+1) (by omega)
      have:=k2.n
      omega
     have hfree:∀ c,rho (Hh i).n≠some c:=fun c hr=>by
      rcases hcase with hlt | ⟨hlt,_⟩
      rotate_left
      ·exact hM.bound _ c hr i hlt hnb ⟨Nat.le_refl _,by have:=k2.n;omega⟩
      obtain ⟨_,i0,q1,q2,q3,_,q5,bl',ob',q6,_⟩:=hM.pend _ c hr (hearly hlt)
      have hne:i0≠i:=fun h=>hnb (h ▸ q3)
      rcases Nat.lt_or_ge i0 i with h | h
      ·have:=(mono_n hhp i (by omega) (i0+1) h).1
       have:=q6.n
       omega
      ·have:=(mono_n hhp i0 (by omega) (i+1) (by omega)).1
       have:=k2.n
       omega
     have halive:(Hh i).n<Hx.n→(Hx.get (Hh i).n).alive:=fun hlx=>by
      rcases hcase with hlt | ⟨hlt,hkeep⟩
      ·exact hM.xhi _ (hearly hlt) hlx
      ·rw [hM.xlo _ (hlateN hlt),hkeep T (by omega) (Nat.le_refl _)]
       exact k3
     obtain ⟨Hy,y1,y2,y3,y4⟩:=heap_of (fun b=>if b=(Hh i).n then bl else Hx.get b) (Hh ops.size).n Hx.wlo
     have hy0:Hy.get (Hh i).n=bl:=by rw [y3 _ hb0N,if_pos rfl]
     have hyo:∀ b,b≠(Hh i).n→Hy.get b=Hx.get b:=fun b hb=>by
      rcases Nat.lt_or_ge b (Hh ops.size).n with h | h
      ·rw [y3 b h,if_neg hb]
      ·rw [y4 b h,hM.pr.out b (by rw [hM.xn];exact h)]
     have hold:∀ c,c<w.heap.size→(w.alloc ob).heap[c]? = w.heap[c]?:=fun c hc=>Below.heap_alloc _ _ _ hc
     generalize hrho2:(fun b=>if b=(Hh i).n then some w.heap.size else rho b)=rho2
     have r20:rho2 (Hh i).n=some w.heap.size:=by rw [← hrho2];exact if_pos rfl
     have r2o:∀ b,b≠(Hh i).n→rho2 b=rho b:=fun b hb=>by rw [← hrho2];exact if_neg hb
     have mX:(mu rho Hx w).le (mu rho2 Hy (w.alloc ob)):=by
      refine ⟨fun b c ⟨q1,q2⟩=>⟨by rw [y1,← hM.xn];exact q1,fun ha => ?_⟩,fun c z ⟨cs,e,fr,q1,q2⟩=>⟨cs,e,fr,by rw [hold c (Array.getElem?_eq_some_iff.1 q1).1];exact q1,q2⟩⟩
      by_cases hb:b=(Hh i).n
      ·subst hb
       exact absurd (q2 (halive q1)) (hfree c)
      ·rw [r2o b hb]
       exact q2 (by rw [← hyo b hb];exact ha)
     have p2:PR P base w0 rho2 Hy (w.alloc ob):=by
      refine ⟨below_of hM.pr.below rfl rfl rfl (by simp) fun k hk=>hold k (by have:=hM.pr.base_le;omega),by have:=hM.pr.base_le;simp;omega,by rw [y1,y2,← hM.xn];exact hM.pr.wn,fun b c hrb => ?_,fun b b' c h1 h2 => ?_,fun b c hrb => ?_,fun b hb=>y4 b (by rw [← y1];exact hb),GQ_same hM.pr.gl.1 fun c hc=>hold c (hM.pr.gl.2.1 c hc),fun c hc=>by have:=hM.pr.gl.2.1 c hc;simp;omega,fun b c hrb hc=>by
       by_cases hb:b=(Hh i).n
       ·subst hb
        rw [r20] at hrb
        cases hrb
        have:=hM.pr.gl.2.1 _ hc
        omega
       ·rw [r2o b hb] at hrb
        exact hM.pr.gl.2.2 b c hrb hc⟩
      ·by_cases hb:b=(Hh i).n
       ·subst hb
        rw [r20] at hrb
        cases hrb
        exact ⟨by rw [y1];exact hb0N,hM.pr.base_le,by simp,by rw [hy0];exact k3⟩
       ·rw [r2o b hb] at hrb
        obtain ⟨q1,q2,q3,q4⟩:=hM.pr.dom b c hrb
        exact ⟨by rw [y1,← hM.xn];exact q1,q2,by simp;omega,by rw [hyo b hb];exact q4⟩
      ·by_cases hb:b=(Hh i).n <;> by_cases hb':b'=(Hh i).n
       ·omega
       ·subst hb
        rw [r20] at h1
        cases h1
        rw [r2o b' hb'] at h2
        have:=(hM.pr.dom b' _ h2).2.2.1
        omega
       ·subst hb'
        rw [r20] at h2
        cases h2
        rw [r2o b hb] at h1
        have:=(hM.pr.dom b _ h1).2.2.1
        omega
       ·rw [r2o b hb] at h1
        rw [r2o b' hb'] at h2
        exact hM.pr.inj b b' c h1 h2
      ·by_cases hb:b=(Hh i).n
       ·subst hb
        rw [r20] at hrb
        cases hrb
        exact ⟨ob,World.alloc_heap_new w _,by rw [hy0];exact k4 _⟩
       ·rw [r2o b hb] at hrb
        obtain ⟨o',q1,q2⟩:=hM.pr.blk b c hrb
        exact ⟨o',by rw [hold c (hM.pr.dom b c hrb).2.2.1];exact q1,by rw [hyo b hb];exact q2.mono mX⟩
     have h0i:=h0N i (by omega)
     have x3:Ext rho0 (Hh 0) w00 rho2 Hy (w.alloc ob):=hM.ext.re hd0 hc0 h0out (by rw [y1];exact h0N _ (Nat.le_refl _)) y2 (fun b hb=>hyo b (by omega)) (fun b hb=>r2o b (by omega)) (fun b c _ hr=>by
      by_cases hb:b=(Hh i).n
      ·subst hb
       rw [r20] at hr
       cases hr
       exact Or.inr hM.ext.size
      ·exact Or.inl (by rw [← r2o b hb];exact hr)) (fun c hc=>hold c (Nat.lt_of_lt_of_le hc hM.ext.size)) (by have:=hM.ext.size;simp;omega)
     refine ih _ _ _ T rho2 Hy ⟨hsz',hC',hM.le,hM.hard,hnot',hbeen',y1,y2.trans hM.xw,fun b hb=>by
      by_cases hbb:b=(Hh i).n
      ·subst hbb
       rcases hcase with hlt | ⟨hlt,hkeep⟩
       ·have:=hearly hlt;omega
       ·rw [hy0,hkeep T (by omega) (Nat.le_refl _)]
      ·rw [hyo b hbb];exact hM.xlo b hb,fun b hb hb' => ?_,p2,x3,hput (hM.tr.mono mX) ?_,(put_defers _ _ _).trans hM.defers,fun b c hrb k hk hnk => ?_,fun b c hrb k hk hkj hbk => ?_,fun b c hrb hbT => ?_⟩ hc'
     ·by_cases hbb:b=(Hh i).n
      ·subst hbb;rw [hy0];exact k3
      ·rw [hyo b hbb]
       exact hM.xhi b hb (by rw [hM.xn,← y1];exact hb')
     ·rw [k1]
      simp only [VR]
      exact ⟨_,rfl,by rw [y1];exact hb0N,fun _=>r20⟩
     ·rw [been_set hil] at hnk
      by_cases hb:b=(Hh i).n
      ·rintro ⟨q1,q2⟩
       have hki:k≠i:=fun h=>hnk (Or.inl h)
       have hTs:=hM.le
       rcases Nat.lt_or_ge k i with h | h
       ·have:=(mono_n hhp i (by omega) (k+1) (by omega)).1;omega
       ·have:=(mono_n hhp k (by omega) (i+1) (by omega)).1
        have:=k2.n
        omega
      ·rw [r2o b hb] at hrb
       exact hM.bound b c hrb k hk fun h=>hnk (Or.inr h)
     ·by_cases hb:b=(Hh i).n
      ·rcases hcase with hlt | ⟨hlt,hkeep⟩
       ·have:=(mono_n hhp T hM.le k hk).1
        have:=hearly hlt
        omega
       ·have hik:i+1≤k:=by
         rcases Nat.lt_or_ge i k with h | h
         ·exact h
         ·have:=(mono_n hhp i (by omega) k h).1;omega
        subst hb
        exact ⟨⟨fun _ _=>False,fun _ _=>False⟩,ob,by rw [hkeep k hik hk];exact k4 _,fun _ _ h=>h.elim⟩
      ·rw [r2o b hb] at hrb
       exact hM.kn b c hrb k hk hkj hbk
     ·by_cases hb:b=(Hh i).n
      ·subst hb
       rw [r20] at hrb
       cases hrb
       have hTi:T<i:=hcase.resolve_right fun h=>by have:=hlateN h.1;omega
       exact ⟨hM.ext.size,i,by omega,hin,(been_set hil).2 (Or.inl rfl),hali,rfl,bl,ob,k2,k3,k4,hy0⟩
      ·rw [r2o b hb] at hrb
       obtain ⟨q0,i0,q1,q2,q3,q4,q5,bl',ob',q6,q7,q8,q9⟩:=hM.pend b c hrb hbT
       exact ⟨q0,i0,q1,q2,(been_set hil).2 (Or.inr q3),q4,q5,bl',ob',q6,q7,q8,by rw [hyo b hb];exact q9⟩
end walk
end
end Go.Ev
end
