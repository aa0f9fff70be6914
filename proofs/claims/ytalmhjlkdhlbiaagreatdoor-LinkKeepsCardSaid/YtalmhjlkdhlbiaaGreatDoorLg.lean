/- Lg: a part of the evaluator,of its logic,or of the laws' walk in it. -/
import Derived.Test.YtalmhjlkdhlbiaaGreatDoorEvD
open Nat renaming le_refl → YA,beq → YK,ble → YS,add → YW,zero_le → Yd,mul → Yh,le_trans → Yn,shiftLeft → Yq,mod → Ys,blt → Yy,shiftRight → Yz,succ → WI,ble_eq_true_of_le → WS,div → Wf,sub → Wv,le_of_lt → QN,ne_of_lt → QV
open Or renaming inr → YD
open List renaming mem_cons_of_mem → YI,mem_cons_self → YJ
open Array renaming getElem?_eq_some_iff → YL
open Eq renaming trans → YU
set_option linter.unusedVariables false
set_option linter.unusedSimpArgs false
set_option linter.unusedSectionVars false
open Nat renaming reduceAdd→ZA,reduceSub→ZB,reduceMul→ZC,reduceEqDiff→ZD,reduceLT→ZE,reduceDiv→ZF,reduceMod→ZG,reduceLeDiff→ZH
section
namespace Go.Ev
def HT.has:HT->Nat->Prop
 | .e,_=>False
 | .n _ _ _,0=>True
 | .n _ l r,j+1=>if j % 2=0 then l.has (j / 2) else r.has (j / 2)
def HT.put (x:eB):HT->Nat->HT
 | .e,_=>.n x .e .e
 | .n _ l r,0=>.n x l r
 | .n u l r,j+1=>if j % 2=0 then .n u (l.put x (j / 2)) r else .n u l (r.put x (j / 2))
def HT.can:HT->Nat->Prop
 | .e,k=>k=0
 | .n _ _ _,0=>True
 | .n _ l r,j+1=>if j % 2=0 then l.can (j / 2) else r.can (j / 2)
theorem HT.A0:∀ (t:HT) (k:Nat),t.has k->t.can k
 | .e,_,h=>h.elim
 | .n _ _ _,0,_=>trivial
 | .n _ l r,j+1,h=>by
  simp only [HT.has,HT.can]at h ⊢
  split
  .rename_i hj;rw [if_pos hj]at h;exact A0 l _ h
  .rename_i hj;rw [if_neg hj]at h;exact A0 r _ h
theorem HT.vP:∀ (t:HT) (k:Nat),(∀ j,j<k->t.has j)->t.can k
 | .e,k,h=>by
  cases k with
  | zero=>rfl
  | succ k=>exact (h 0 (by omega)).elim
 | .n _ _ _,0,_=>trivial
 | .n u l r,j+1,h=>by
  simp only [HT.can]
  split
  .rename_i hj
   refine vP l _ λi hi=>?_
   have:=h (2*i+1) (by omega)
   simp only [HT.has]at this
   rw [if_pos (by omega),show 2*i/2=i by omega]at this
   exact this
  .rename_i hj
   refine vP r _ λi hi=>?_
   have:=h (2*i+1+1) (by omega)
   simp only [HT.has]at this
   rw [if_neg (by omega),show (2*i+1)/2=i by omega]at this
   exact this
theorem HT.vr {x:eB}:∀ (t:HT) (k:Nat) (c:HT->R),t.can k->t.set x k c=c (t.put x k)
 | .e,k,c,h=>by
  simp only [HT.can]at h
  subst h
  rfl
 | .n _ _ _,0,_,_=>rfl
 | .n u l r,j+1,c,h=>by
  simp only [HT.can]at h
  show Nat.rec (motive:=λ_=>R) (l.set x (j/2) λl'=>c (.n u l' r)) (λ_ _=>r.set x (j/2) λr'=>c (.n u l r')) (j%2)=_
  simp only [HT.put]
  by_cases hj:j%2=0
  .rw [if_pos hj]at h ⊢
   rw [hj]
   exact vr l _ _ h
  .rw [if_neg hj]at h ⊢
   rw [show j%2=1 by omega]
   exact vr r _ _ h
theorem HT.aF {x:eB}:∀ (t:HT) (k j:Nat),t.can k->(t.put x k).get j=if j=k then x else t.get j
 | .e,k,j,h=>by
  simp only [HT.can]at h
  subst h
  cases j with
  | zero=>rfl
  | succ j=>simp only [HT.put,HT.cI,HT.uc];simp
 | .n u l r,0,j,_=>by
  cases j with
  | zero=>rfl
  | succ j=>simp only [HT.put,HT.cI];simp
 | .n u l r,k+1,j,h=>by
  simp only [HT.can]at h
  by_cases hk:k%2=0
  .rw [if_pos hk]at h
   simp only [HT.put,if_pos hk]
   cases j with
   | zero=>simp [HT.Dt]
   | succ j=>
    simp only [HT.cI,aF l _ _ h]
    by_cases hj:j%2=0
    .simp only [if_pos hj]
     by_cases he:j=k
     .subst he;simp
     .rw [if_neg (by omega),if_neg (by omega)]
    .simp only [if_neg hj]
     rw [if_neg (by omega)]
  .rw [if_neg hk]at h
   simp only [HT.put,if_neg hk]
   cases j with
   | zero=>simp [HT.Dt]
   | succ j=>
    simp only [HT.cI,aF r _ _ h]
    by_cases hj:j%2=0
    .simp only [if_pos hj]
     rw [if_neg (by omega)]
    .simp only [if_neg hj]
     by_cases he:j=k
     .subst he;simp
     .rw [if_neg (by omega),if_neg (by omega)]
theorem HT.uV {x:eB}:∀ (t:HT) (k j:Nat),t.can k->((t.put x k).has j↔j=k\/t.has j)
 | .e,k,j,h=>by
  simp only [HT.can]at h
  subst h
  cases j with
  | zero=>simp [HT.put,HT.has]
  | succ j=>simp only [HT.put,HT.has];split<;>simp
 | .n u l r,0,j,_=>by
  cases j with
  | zero=>simp [HT.put,HT.has]
  | succ j=>simp [HT.put,HT.has]
 | .n u l r,k+1,j,h=>by
  simp only [HT.can]at h
  by_cases hk:k%2=0
  .rw [if_pos hk]at h
   simp only [HT.put,if_pos hk]
   cases j with
   | zero=>simp [HT.has]
   | succ j=>
    simp only [HT.has]
    by_cases hj:j%2=0
    .simp only [if_pos hj,uV l _ _ h]
     constructor<;>rintro (h|h)<;>first|exact YD h|(left;omega)
    .simp only [if_neg hj]
     constructor
     .exact YD
     .rintro (h|h)
      .omega
      .exact h
  .rw [if_neg hk]at h
   simp only [HT.put,if_neg hk]
   cases j with
   | zero=>simp [HT.has]
   | succ j=>
    simp only [HT.has]
    by_cases hj:j%2=0
    .simp only [if_pos hj]
     constructor
     .exact YD
     .rintro (h|h)
      .omega
      .exact h
    .simp only [if_neg hj,uV r _ _ h]
     constructor<;>rintro (h|h)<;>first|exact YD h|(left;omega)
def Heap.wf (H:Heap):Prop:=∀ b,b<H.n->H.t.has b
open Classical in
noncomputable def Heap.put (H:Heap) (b:Nat) (x:eB):Heap:=if H.wf/\b<H.n then .mk H.n (if H.bj<=b then H.bj else b) (H.t.put x b) else H
open Classical in
noncomputable def Heap.new (H:Heap) (x:eB):Heap:=.mk (H.n+1) H.bj (if H.wf then H.t.put x H.n else H.t)
section
variable {H:Heap} {b:Nat} {x y:eB}
theorem Heap.mR (h:H.wf) (hb:b<H.n):H.put b x = .mk H.n (if H.bj<=b then H.bj else b) (H.t.put x b):=if_pos ⟨h,hb⟩
theorem Heap.Bp (h:H.wf):H.new x = .mk (H.n+1) H.bj (H.t.put x H.n):=by
 unfold Heap.new
 rw [if_pos h]
theorem Heap.aT:(H.put b x).n=H.n:=by
 unfold Heap.put
 split<;>rfl
theorem Heap.aN:(H.new x).n=H.n+1:=YU rfl rfl
theorem Heap.B8:(H.new x).bj=H.bj:=YU rfl rfl
theorem Heap.Ux (h:H.wf) (hb:b<H.n):(H.put b x).bj=if H.bj<=b then H.bj else b:=by rw [Heap.mR h hb];rfl
theorem Heap.wf.can (h:H.wf) (hb:b<=H.n):H.t.can b:=by
 rcases Nat.lt_or_eq_of_le hb with hb|rfl
 .exact H.t.A0 b (h b hb)
 .exact H.t.vP _ h
theorem Heap.bE:(H.put b x).wf=H.wf:=by
 by_cases h:H.wf/\b<H.n
 .rw [Heap.mR h.1 h.2]
  exact propext ⟨λ_=>h.1,λ_ j hj=>(HT.uV _ _ _ (h.1.can (QN h.2))).2 (YD (h.1 j hj))⟩
 .unfold Heap.put
  rw [if_neg h]
theorem Heap.aY:(H.new x).wf=H.wf:=by
 by_cases h:H.wf
 .rw [Heap.Bp h]
  exact propext ⟨λ_=>h,λ_ j hj=>(HT.uV _ _ _ (h.can (YA _))).2 (by
   have:j<H.n+1:=hj
   rcases Nat.lt_or_ge j H.n with h'|h'
   .exact YD (h j h')
   .exact Or.inl (by omega))⟩
 .refine propext ⟨λh2=>absurd (λj hj=>?_) h,λh2=>absurd h2 h⟩
  have:=h2 j (Nat.lt_succ_of_lt hj)
  unfold Heap.new at this
  rw [if_neg h]at this
  exact this
theorem Heap.aF (h:H.wf) (hb:b<H.n) (j:Nat):(H.put b x).get j=if j=b then x else H.get j:=by
 rw [Heap.mR h hb]
 exact HT.aF _ _ _ (h.can (QN hb))
theorem Heap.aE (h:H.wf) (j:Nat):(H.new x).get j=if j=H.n then x else H.get j:=by
 rw [Heap.Bp h]
 exact HT.aF _ _ _ (h.can (YA _))
theorem fm {id} {k} (h:H.wf) (hb:b<H.n):cQ id H b x k=k (H.put b x):=by
 rw [Heap.mR h hb]
 cases H with
 | mk n bj t=>
  show aD (Yy b n) (HT.set x t b λt'=>aD (YS bj b) (k (.mk n bj t')) (k (.mk n b t'))) (no 0)=_
  have hb':=hb
  have h1:Yy b n=true:=WS hb'
  rw [h1]
  rw [HT.vr t _ _ (h.can (QN hb))]
  show aD (YS bj b) _ _=k (.mk n (if bj<=b then bj else b) (t.put x b))
  by_cases hw:bj<=b
  .rw [WS hw,if_pos hw];rfl
  .have:YS bj b=false:=by
    cases hc:YS bj b with
    | false=>rfl
    | true=>exact absurd (Nat.le_of_ble_eq_true hc) hw
   rw [this,if_neg hw];rfl
theorem cP {k} (h:H.wf):cm H x k=k H.n (H.new x):=by
 rw [Heap.Bp h]
 cases H with
 | mk n bj t=>
  show HT.set x t n (λt'=>av (WI n) λn'=>k n (.mk n' bj t'))=_
  rw [HT.vr t n _ (h.can (YA n)),aw]
  rfl
end
theorem HT.iM {x y:eB}:∀ (t:HT) (k:Nat),t.can k->(t.put x k).put y k=t.put y k
 | .e,k,h=>by
  simp only [HT.can]at h
  subst h
  rfl
 | .n _ _ _,0,_=>rfl
 | .n u l r,k+1,h=>by
  simp only [HT.can]at h
  simp only [HT.put]
  by_cases hk:k%2=0
  .rw [if_pos hk]at h
   simp only [if_pos hk,HT.put,iM l _ h]
  .rw [if_neg hk]at h
   simp only [if_neg hk,HT.put,iM r _ h]
theorem Heap.iM {H:Heap} {b:Nat} {x y:eB}:(H.put b x).put b y=H.put b y:=by
 by_cases h:H.wf/\b<H.n
 .have h1:(H.put b x).wf:=by rw [Heap.bE];exact h.1
  have h2:b<(H.put b x).n:=by rw [Heap.aT];exact h.2
  rw [Heap.mR h1 h2,Heap.mR h.1 h.2,Heap.mR h.1 h.2]
  show Heap.mk H.n (if (if H.bj<=b then H.bj else b)<=b then (if H.bj<=b then H.bj else b) else b) ((H.t.put x b).put y b)=Heap.mk H.n _ _
  rw [HT.iM _ _ (h.1.can (QN h.2))]
  congr 1
  split<;>simp_all
 .have e:H.put b x=H:=if_neg h
  rw [e]
theorem bA {c} {t f}:aD c t f=if c=true then t else f:=by cases c<;>rfl
@[simp] theorem Bo {a b}:(Yy a b=true)=(a<b):=by
 simp
@[simp] theorem mc {a b:Nat}:(YS a b=true)=(a<=b):=by
 simp
@[simp] theorem oQ {a b:Nat}:(YK a b=true)=(a=b):=by
 simp
end Go.Ev
end
section
namespace Go.Ev
section
variable {id:Nat} {x y:V}
@[congr] theorem Zu {f} (h:x=y):cw id x f=cw id y f:=by rw [h]
@[congr] theorem VE {f} (h:x=y):eJ id x f=eJ id y f:=by rw [h]
@[congr] theorem Zx {f} (h:x=y):dZ id x f=dZ id y f:=by rw [h]
@[congr] theorem Zw {f} (h:x=y):ei id x f=ei id y f:=by rw [h]
@[congr] theorem Uu {f} (h:x=y):lH id x f=lH id y f:=by rw [h]
@[congr] theorem Ra {f} {z} (h:x=y):bh id x f z=bh id y f z:=by rw [h]
@[congr] theorem Zv {f} (h:x=y):Ff id x f=Ff id y f:=by rw [h]
@[congr] theorem VF {f} {z} (h:x=y):qp id x f z=qp id y f z:=by rw [h]
@[congr] theorem Zs {f} (h:x=y):js id x f=js id y f:=by rw [h]
@[congr] theorem Zy {f} (h:x=y):ym id x f=ym id y f:=by rw [h]
@[congr] theorem Ut {f} (h:x=y):dN id x f=dN id y f:=by rw [h]
@[congr] theorem Vk {f} (h:x=y):dX id x f=dX id y f:=by rw [h]
@[congr] theorem Vj {f} (h:x=y):isKey id x f=isKey id y f:=by rw [h]
@[congr] theorem Vr {f} (h:x=y):fY id x f=fY id y f:=by rw [h]
@[congr] theorem ZU {b} {t f} (h:x=y):Ft x b t f=Ft y b t f:=by rw [h]
theorem xK {k n} {f}:cw id (.int k n) f=f k n:=YU rfl rfl
theorem Iz {b} {f}:eJ id (.bool b) f=f b:=YU rfl rfl
theorem P1 {l n} {f}:dZ id (.str l n) f=f l n:=YU rfl rfl
theorem P0 {b o} {f}:ei id (.ptr b o) f=f b o:=YU rfl rfl
theorem BZ {b o l c s} {f}:lH id (.slice b o l c s) f=f b o l c s:=YU rfl rfl
theorem cX {b o l c s} {f} {z}:bh id (.slice b o l c s) f z=f b o l c s:=YU rfl rfl
theorem fF {f} {z}:bh id .aB f z=z:=YU rfl rfl
theorem PZ {b} {f}:Ff id (.map b) f=f b:=YU rfl rfl
theorem LD {b} {f} {z}:qp id (.map b) f z=f b:=YU rfl rfl
theorem PY {l} {f}:js id (.agg l) f=f l:=YU rfl rfl
theorem P2 {l} {f}:ym id (.cV l) f=f l:=YU rfl rfl
theorem IB {k n} {f}:dN id (.int k n) f=f [.int k n]:=YU rfl rfl
theorem Fa {b} {f}:dN id (.bool b) f=f [.bool b]:=YU rfl rfl
theorem IE {l n} {f}:dN id (.str l n) f=f [.str l n]:=YU rfl rfl
theorem ID {b o} {f}:dN id (.ptr b o) f=f [.ptr b o]:=YU rfl rfl
theorem BX {b o l c s} {f}:dN id (.slice b o l c s) f=f [.slice b o l c s]:=YU rfl rfl
theorem Fc {f}:dN id .aB f=f [.aB]:=YU rfl rfl
theorem IC {b} {f}:dN id (.map b) f=f [.map b]:=YU rfl rfl
theorem Fb {n} {l} {f}:dN id (.func n l) f=f [.func n l]:=YU rfl rfl
theorem IA {l} {f}:dN id (.agg l) f=f l:=YU rfl rfl
theorem yN {k n} {f}:dX id (.int k n) f=f:=YU rfl rfl
theorem GN {b} {f}:dX id (.bool b) f=f:=YU rfl rfl
theorem yP {l n} {f}:dX id (.str l n) f=f:=YU rfl rfl
theorem Ky {b o} {f}:dX id (.ptr b o) f=f:=YU rfl rfl
theorem DC {b o l c s} {f}:dX id (.slice b o l c s) f=f:=YU rfl rfl
theorem GP {f}:dX id .aB f=f:=YU rfl rfl
theorem Kx {b} {f}:dX id (.map b) f=f:=YU rfl rfl
theorem GO {n} {l} {f}:dX id (.func n l) f=f:=YU rfl rfl
theorem Kw {k n} {f}:isKey id (.int k n) f=f:=YU rfl rfl
theorem KP {b o} {f}:fY id (.ptr b o) f=f 11:=YU rfl rfl
theorem Ho {f}:fY id .jk f=f 10:=YU rfl rfl
theorem Ed {b o l c s} {f}:fY id (.slice b o l c s) f=f 21:=YU rfl rfl
theorem Hp {f}:fY id .aB f=f 20:=YU rfl rfl
theorem KO {b} {f}:fY id (.map b) f=f 31:=YU rfl rfl
theorem Hm {f}:fY id .xd f=f 30:=YU rfl rfl
theorem XJ {t f}:Ft (.bool true) true t f=t:=YU rfl rfl
theorem XI {t f}:Ft (.bool true) false t f=f:=YU rfl rfl
theorem XG {t f}:Ft (.bool false) true t f=f:=YU rfl rfl
theorem XF {t f}:Ft (.bool false) false t f=t:=YU rfl rfl
end
theorem T5 {s} {e}:ay (.s s) e=aa s e:=YU rfl rfl
theorem T0 {v} {e}:ay (.c v) e=v:=YU rfl rfl
section
variable {fuel id:Nat} {ph:cW} {e:Env} {H:Heap} {kn:KE} {kx:Nat->KE} {a b:ai} {k:Env->Heap->R} {l:List Cc} {d:Option Slot} {op:kV} {cls:Nat}
theorem NH:gZ .skip fuel ph e H kn kx=kn e H:=YU rfl rfl
theorem Tc:gZ (.seq a b) fuel ph e H kn kx=gZ a fuel ph e H (λe H=>gZ b fuel ph e H kn kx) kx:=YU rfl rfl
theorem Ta:gZ (.uu l) fuel ph e H kn kx=iT ph l e H kn:=YU rfl rfl
theorem ND:gZ (.nG l) fuel ph e H kn kx=cH ph l e H kn:=YU rfl rfl
theorem NC {c}:gZ (.cond c a b) fuel ph e H kn kx=eJ 0 (ay c e) λq=>if q=true then gZ a fuel ph e H kn kx else gZ b fuel ph e H kn kx:=by
 show aH c e (λv=>eJ 0 v λq=>aD q (gZ a fuel ph e H kn kx) (gZ b fuel ph e H kn kx))=_
 rw [aq]
 congr 1
 funext q
 exact bA
theorem Kl:gZ (.block id a) fuel ph e H kn kx=gZ a fuel ph e H kn λn e H=>if n=id+1 then kn e H else kx n e H:=by
 show gZ a fuel ph e H kn (λn e H=>aD (YK n (WI id)) (kn e H) (kx n e H))=_
 congr 1
 funext n e H
 rw [bA]
 simp
theorem NF:gZ (.exit id) fuel ph e H kn kx=kx (id+1) e H:=YU rfl rfl
theorem Tb:gZ .ret fuel ph e H kn kx=kx 0 e H:=YU rfl rfl
noncomputable def jF (a:ai) (fuel:Nat) (ph:cW) (kx:Nat->KE) (n:Nat):KE:=Nat.rec (motive:=λ_=>Env->Heap->R) (λ_ _=>no 3) (λ_ ih e H=>gZ a fuel ph e H ih kx) n
theorem NG:gZ (.loop a) fuel ph e H kn kx=jF a fuel ph kx fuel e H:=YU rfl rfl
theorem ak {n}:jF a fuel ph kx (n+1) e H=gZ a fuel ph e H (jF a fuel ph kx n) kx:=YU rfl rfl
theorem HM {s} {v} {e}:dP (some s) v e=kP s v e:=YU rfl rfl
theorem HL {v} {e}:dP none v e=e:=YU rfl rfl
theorem Km:iT ph [] e H k=k e H:=YU rfl rfl
theorem Gy:iT ph (⟨id,d,none,cls,op⟩:: l) e H k=aM op id ph e H λv H'=>iT ph l (dP d v e) H' k:=by
 show aM op id ph e H (λv H'=>bZ d v e λe'=>iT ph l e' H' k)=_
 simp only [cz]
theorem Gz {s} {b}:iT ph (⟨id,d,some (s,b),cls,op⟩:: l) e H k=Ft (aa s e) b (aM op id ph e H λv H'=>iT ph l (dP d v e) H' k) (iT ph l (dP d (.cV []) e) H k):=by
 show jz s e (λv=>Ft v b (aM op id ph e H λv H'=>bZ d v e λe'=>iT ph l e' H' k) (bZ d (.cV []) e λe'=>iT ph l e' H k))=_
 simp only [cz,eg]
noncomputable def Heap.mark (H:Heap):Heap:=.mk H.n H.n H.t
noncomputable def Heap.dY (H:Heap) (w:Nat):Heap:=.mk H.n w H.t
theorem Heap.Ov:H.mark.n=H.n:=YU rfl rfl
theorem Heap.Fk:H.mark.bj=H.n:=YU rfl rfl
theorem Heap.Ds {b:Nat}:H.mark.get b=H.get b:=YU rfl rfl
theorem Heap.dV:H.mark.wf=H.wf:=YU rfl rfl
theorem Heap.BV {w:Nat}:H.mark.dY w=H.dY w:=YU rfl rfl
theorem Heap.EX {w:Nat} {x:eB}:(H.new x).dY w=(H.dY w).new x:=YU rfl rfl
theorem Heap.EY:H.dY H.bj=H:=by cases H;rfl
theorem Gw:cH ph [] e H k=k e H:=YU rfl rfl
theorem C5:cH ph (⟨id,d,none,0,op⟩:: l) e H k=aM op id ph e H λv H'=>cH ph l (dP d v e) H' k:=by
 show aM op id ph e H (λv H'=>bZ d v e λe'=>cH ph l e' H' k)=_
 simp only [cz]
theorem C6 {s} {b}:cH ph (⟨id,d,some (s,b),0,op⟩:: l) e H k=Ft (aa s e) b (aM op id ph e H λv H'=>cH ph l (dP d v e) H' k) (cH ph l (dP d (.cV []) e) H k):=by
 show jz s e (λv=>Ft v b (aM op id ph e H λv H'=>bZ d v e λe'=>cH ph l e' H' k) (bZ d (.cV []) e λe'=>cH ph l e' H k))=_
 simp only [cz,eg]
theorem ua:cH ph (⟨id,d,none,1,op⟩:: l) e H k=aM op id ph e H.mark λv H'=>if H.n<=H'.bj then cH ph l (dP d v e) (H'.dY H.bj) k else no 0:=by
 cases H with
 | mk n bj t=>
  show aM op id ph e (.mk n n t) (λv H'=>Heap.rec (λn' wlo' t'=>aD (YS n wlo') (bZ d v e λe'=>cH ph l e' (.mk n' bj t') k) (no 0)) H')=_
  congr 1
  funext v H'
  cases H' with
  | mk n' wlo' t'=>
   show aD (YS n wlo') (bZ d v e λe'=>cH ph l e' (.mk n' bj t') k) (no 0)=_
   rw [bA,cz]
   simp only [mc]
   rfl
theorem AW {s} {b}:cH ph (⟨id,d,some (s,b),1,op⟩:: l) e H k=Ft (aa s e) b (aM op id ph e H.mark λv H'=>if H.n<=H'.bj then cH ph l (dP d v e) (H'.dY H.bj) k else no 0) (cH ph l (dP d (.cV []) e) H k):=by
 have h1:=ua (id:=id) (ph:=ph) (e:=e) (H:=H) (k:=k) (l:=l) (d:=d) (op:=op)
 have h2:cH ph (⟨id,d,some (s,b),1,op⟩:: l) e H k=jz s e (λv=>Ft v b (cH ph (⟨id,d,none,1,op⟩:: l) e H k) (bZ d (.cV []) e λe'=>cH ph l e' H k)):=rfl
 rw [h2,eg,cz,h1]
end
end Go.Ev
end
section
namespace Go.Ev
section
variable {id:Nat}
theorem OD {v} {l} {k}:nth id (v :: l) 0 k=k v:=YU rfl rfl
theorem Ee {v} {l} {i} {k}:nth id (v :: l) (i+1) k=nth id l i k:=YU rfl rfl
theorem iL:∀ {l} {i} {v} {k},l[i]? = some v->nth id l i k=k v
 | [],i,v,k,h=>by simp_all
 | x :: l,0,v,k,h=>by simp at h;subst h;rfl
 | x :: l,i+1,v,k,h=>by
  rw [Ee]
  exact iL (by simp_all)
theorem gE:∀ {l} {i} {k},i<=l.length->fj id l i k=k (l.drop i)
 | [],0,k,_=>rfl
 | [],i+1,k,h=>by simp_all
 | x :: l,0,k,_=>rfl
 | x :: l,i+1,k,h=>by
  show fj id l i k=_
  rw [gE (by simp_all)]
  rfl
theorem fP:∀ {l} {i} {k},i<=l.length->takeN id l i k=k (l.take i)
 | [],0,k,_=>rfl
 | [],i+1,k,h=>by simp_all
 | x :: l,0,k,_=>rfl
 | x :: l,i+1,k,h=>by
  show takeN id l i (λr=>k (x :: r))=_
  rw [fP (by simp_all)]
  rfl
theorem Bs:∀ {m l} {k},m.length<=l.length->over id m l k=k (m ++ l.drop m.length)
 | [],l,k,_=>rfl
 | x :: m,[],k,h=>by simp_all
 | x :: m,y :: l,k,h=>by
  show over id m l (λq=>k (x :: q))=_
  rw [Bs (by simp_all)]
  rfl
theorem sy:∀ {m l} {i} {k},i+m.length<=l.length->setAt id m l i k=k (l.take i ++ (m ++ l.drop (i+m.length)))
 | m,[],0,k,h=>by
  show over id m [] k=_
  rw [Bs (by omega)]
  simp
 | m,[],i+1,k,h=>by simp_all
 | m,y :: l,0,k,h=>by
  show over id m (y :: l) k=_
  rw [Bs (by omega)]
  simp
 | m,y :: l,i+1,k,h=>by
  show setAt id m l i (λq=>k (y :: q))=_
  rw [sy (by grind)]
  grind
theorem Lj {x} {l} {i} {k} (h:i<l.length):setAt id [x] l i k=k (l.set i x):=by
 rw [sy (by grind),List.set_eq_take_append_cons_drop,if_pos h]
 rfl
theorem FJ {k}:aZ id [] k=k:=YU rfl rfl
theorem kY {v} {l} {k}:aZ id (v :: l) k=dX id v (aZ id l k):=YU rfl rfl
end
@[congr] theorem VD {id} {l m} {i j} {k} (h:l=m) (h':i=j):takeN id l i k=takeN id m j k:=by simp_all
@[congr] theorem Vy {id} {m m' l l'} {i j} {k} (h0:m=m') (h:l=l') (h':i=j):setAt id m l i k=setAt id m' l' j k:=by simp_all
@[congr] theorem RX {id} {l m} {k} (h:l=m):aZ id l k=aZ id m k:=by rw [h]
@[congr] theorem Tf {n m} {k} (h:n=m):av n k=av m k:=by rw [h]
noncomputable def LR (id:Nat) (bl:eB) (off:Nat) (k:V->R):R:=ZP id bl (λl=>nth id l off k) (λlen n=>if off<len then k (.int 4 (n >>> (8*off) &&& 255)) else no 0) λl=>nth id l off λv=>dX id v (k v)
noncomputable def BB (id:Nat) (bl:eB) (off n:Nat) (k:List V->R):R:=ZP id bl (λl=>fj id l off λr=>takeN id r n k) (λlen x=>if off+n<=len then k ((aA n (x >>> (8*off))).map eA) else no 0) λl=>fj id l off λr=>takeN id r n λq=>aZ id q (k q)
@[congr] theorem ZY {id} {x y} {i j} {k} (h:x=y) (h':i=j):LR id x i k=LR id y j k:=by simp_all
@[congr] theorem Y8 {id} {x y} {i j n m} {k} (h:x=y) (h':i=j) (h2:n=m):BB id x i n k=BB id y j m k:=by simp_all
@[congr] theorem ZO {id} {x y} {kc} {kb} (h:x=y):rJ id x kc kb=rJ id y kc kb:=by rw [h]
@[congr] theorem V1 {id} {x y} {k} (h:x=y):rI id x k=rI id y k:=by rw [h]
section
variable {id:Nat} {H:Heap}
theorem ir {l} {kc} {kb}:rJ id (.cells l) kc kb=kc l:=YU rfl rfl
theorem JY {a b} {kc} {kb}:rJ id (.bytes a b) kc kb=kb a b:=YU rfl rfl
theorem Me {es} {k}:rI id (.map es) k=k es:=YU rfl rfl
theorem Oj {b off} {k}:nv id H b off k=rJ id (H.get b) (λl=>nth id l off k) λlen n=>if off<len then k (.int 4 (n >>> (8*off) &&& 255)) else no 0:=by
 unfold nv
 rw [aP]
 congr 1
 funext len n
 rw [bA]
 simp only [Bo,aw]
 rfl
theorem Y7 {b off} {k}:JJ id H b off k=LR id (H.get b) off k:=by
 unfold JJ LR
 rw [aP]
 congr 1
 funext len n
 rw [bA]
 simp only [Bo,aw]
 rfl
theorem BC {b off n} {k}:Es id H b off n k=BB id (H.get b) off n k:=by
 unfold Es BB
 rw [aP]
 congr 1
 funext len x
 rw [bA]
 simp only [mc,iH]
 rfl
theorem La {l} {off} {k}:LR id (.cells l) off k=nth id l off k:=YU rfl rfl
theorem K9 {len n off} {k}:LR id (.bytes len n) off k=if off<len then k (.int 4 (n >>> (8*off) &&& 255)) else no 0:=YU rfl rfl
theorem mS {l} {off n} {k}:BB id (.cells l) off n k=fj id l off λr=>takeN id r n k:=YU rfl rfl
theorem zy {l} {off n} {k}:BB id (.view l) off n k=fj id l off λr=>takeN id r n λq=>aZ id q (k q):=YU rfl rfl
theorem oI {b off n} {k}:eC id H b off n k=rJ id (H.get b) (λl=>fj id l off λr=>takeN id r n k) λlen x=>if off+n<=len then k ((aA n (x >>> (8*off))).map eA) else no 0:=by
 unfold eC
 rw [aP]
 congr 1
 funext len x
 rw [bA]
 simp only [mc,iH]
 rfl
theorem Is {b off} {m} {k}:dU id H b off m k=rJ id (H.get b) (λl=>aZ id m (setAt id m l off λl'=>cQ id H b (.cells l') k))
 λlen x=>ig id m λml mx=>aD (YS (YW off ml) len)
  (av (YW (Ys x (Nat.pow 256 off)) (Yq (YW mx (Yq (Yz x (Yh 8 (YW off ml))) (Yh 8 ml))) (Yh 8 off))) λx'=>cQ id H b (.bytes len x') k) (no 0):=by
 rfl
theorem Lo {b off} {m} {k} {l} (hb:H.get b = .cells l):dU id H b off m k=aZ id m (setAt id m l off λl'=>cQ id H b (.cells l') k):=by
 unfold dU
 rw [aP,hb]
 rfl
end
noncomputable def aj (ph:cW) (x:V) (args:List V) (H:Heap) (k:K):R:=ph x args H k
@[congr] theorem Vb {ph} {x y} {l m} {H G} {k} (h:x=y) (h':l=m) (h2:H=G):aj ph x l H k=aj ph y m G k:=by simp_all
section
variable {id:Nat} {ph:cW} {e:Env} {H:Heap} {k:K}
theorem Y1 {x}:aM (.iV x) id ph e H k=k (ay x e) H:=by
 show aH x e (λv=>k v H)=_
 rw [aq]
theorem TU {c x y}:aM (.pick c x y) id ph e H k=eJ id (ay c e) λb=>if b=true then k (ay x e) H else k (ay y e) H:=by
 show aH c e (λc=>eJ id c λb=>aD b (aH x e λv=>k v H) (aH y e λv=>k v H))=_
 simp only [aq,bA]
theorem TQ {z} (h:H.wf):aM (.oT z) id ph e H k=k (.ptr H.n 0) (H.new (.cells z)):=cP (k:=λn H=>k (.ptr n 0) H) h
theorem TP {n} (h:H.wf):aM (.XU n) id ph e H k=k (.ptr H.n 0) (H.new (.bytes n 0)):=cP (k:=λn H=>k (.ptr n 0) H) h
theorem OS (h:H.wf):aM .mkMap id ph e H k=k (.map H.n) (H.new (.map [])):=cP (k:=λn H=>k (.map n) H) h
theorem X4 {x}:aM (.box x) id ph e H k=dN id (ay x e) λl=>aZ id l (cm H (.cells l) λn H=>k (.ptr n 0) H):=by
 show aH x e (λv=>dN id v λl=>aZ id l (cm H (.cells l) λn H=>k (.ptr n 0) H))=_
 rw [aq]
theorem OP {a}:aM (.cS a) id ph e H k=ei id (ay a e) λb o=>JJ id H b o λv=>k v H:=by
 show aH a e (λa=>ei id a λb o=>JJ id H b o λv=>k v H)=_
 rw [aq]
theorem OQ {n} {a}:aM (.dx n a) id ph e H k=ei id (ay a e) λb o=>Es id H b o n λl=>k (.agg l) H:=by
 show aH a e (λa=>ei id a λb o=>Es id H b o n λl=>k (.agg l) H)=_
 rw [aq]
theorem KT {a x}:aM (.eX a x) id ph e H k=ei id (ay a e) λb o=>dX id (ay x e) (dU id H b o [ay x e] λH=>k (.cV []) H):=by
 show aH a e (λa=>ei id a λb o=>aH x e λx=>dX id x (dU id H b o [x] λH=>k (.cV []) H))=_
 simp only [aq]
theorem KU {n} {a x}:aM (.gX n a x) id ph e H k=ei id (ay a e) λb o=>js id (ay x e) λl=>if l.length=n then dU id H b o l λH=>k (.cV []) H else no 0:=by
 show aH a e (λa=>ei id a λb o=>aH x e λx=>js id x λl=>aD (YK (dL l) n) (dU id H b o l λH=>k (.cV []) H) (no 0))=_
 simp only [aq,bA,oQ,iJ]
noncomputable def Fh (v:V) (k:K) (H:Heap):R:=Jg (.c v) 0 (λ_ _ _ _=>0) C4 H k
theorem TT {x}:aM (.OB x) id ph e H k=Fh (ay x e) k H:=by
 show Jg x id ph e H k=_
 unfold Fh Jg
 rw [aq,aq]
 rfl
@[congr] theorem VG {x y} (h:x=y):Fh x k H=Fh y k H:=by rw [h]
theorem LF {b o}:Fh (.ptr b o) k H=k (.ptr b o) H:=YU rfl rfl
theorem X3 {kd ky} {f} {x y}:aM (.bin kd ky f x y) id ph e H k=cw id (ay x e) λk1 a=>cw id (ay y e) λk2 b=>if k1=kd then (if k2=ky then iS id f a b λr=>k (.int kd r) H else no 0) else no 0:=by
 show aH x e (λx=>cw id x λk1 a=>aH y e λy=>cw id y λk2 b=>aD (YK k1 kd) (aD (YK k2 ky) (iS id f a b λr=>k (.int kd r) H) (no 0)) (no 0))=_
 simp only [aq,bA,oQ]
theorem X5 {kd} {f} {x y}:aM (.cmp kd f x y) id ph e H k=cw id (ay x e) λk1 a=>cw id (ay y e) λk2 b=>if k1=kd then (if k2=kd then (if dW f a b=true then k (.bool true) H else k (.bool false) H) else no 0) else no 0:=by
 show aH x e (λx=>cw id x λk1 a=>aH y e λy=>cw id y λk2 b=>aD (YK k1 kd) (aD (YK k2 kd) (aD (dW f a b) (k (.bool true) H) (k (.bool false) H)) (no 0)) (no 0))=_
 simp only [aq,bA,oQ]
theorem X6 {kc} {neg} {x y}:aM (.eqv kc neg x y) id ph e H k=fY id (ay x e) λa=>fY id (ay y e) λb=>if a/10=kc then (if b/10=kc then (if a=b then (if a%10=1 then no 0 else k (.bool (!neg)) H) else k (.bool neg) H) else no 0) else no 0:=by
 show aH x e (λx=>fY id x λa=>aH y e λy=>fY id y λb=>aD (YK (Wf a 10) kc) (aD (YK (Wf b 10) kc) (aD (YK a b) (aD (YK (Ys a 10) 1) (no 0) (aD neg (k (.bool false) H) (k (.bool true) H))) (k (.bool neg) H)) (no 0)) (no 0))=_
 have hn:aD neg (k (.bool false) H) (k (.bool true) H)=k (.bool (!neg)) H:=by cases neg<;>rfl
 simp only [aq,bA (c:=YK _ _),oQ,hn]
 rfl
theorem TM {x}:aM (.Oh x) id ph e H k=eJ id (ay x e) λb=>k (.bool (!b)) H:=by
 show aH x e (λx=>eJ id x λb=>aD b (k (.bool false) H) (k (.bool true) H))=_
 rw [aq]
 congr 1
 funext b
 cases b<;>rfl
theorem TH {off} {x}:aM (.lY off x) id ph e H k=ei id (ay x e) λb o=>k (.ptr b (o+off)) H:=by
 show aH x e (λx=>ei id x λb o=>av (YW o off) λo'=>k (.ptr b o') H)=_
 simp only [aq,aw]
 rfl
theorem TJ {off n} {x}:aM (.Te off n x) id ph e H k=js id (ay x e) λl=>fj id l off λr=>takeN id r n λq=>k (.agg q) H:=by
 show aH x e (λx=>js id x λl=>fj id l off λr=>takeN id r n λq=>k (.agg q) H)=_
 rw [aq]
theorem TG {x} {i}:aM (.NJ x i) id ph e H k=ym id (ay x e) λl=>nth id l i λv=>k v H:=by
 show aH x e (λx=>ym id x λl=>nth id l i λv=>k v H)=_
 rw [aq]
theorem X9 {f} {caps}:aM (.mkF f caps) id ph e H k=k (.func f (caps.map (ay · e))) H:=by
 show om caps e (λl=>k (.func f l) H)=_
 rw [gI]
theorem TF {f} {args}:aM (.call f args) id ph e H k=aj ph (.func f []) (args.map (ay · e)) H k:=by
 show om args e (λl=>ph (.func f []) l H k)=_
 rw [gI]
 rfl
theorem OM {x} {args}:aM (.MS x args) id ph e H k=aj ph (ay x e) (args.map (ay · e)) H k:=by
 show aH x e (λx=>om args e λl=>ph x l H k)=_
 rw [aq,gI]
 rfl
theorem Jq {n}:ke id n H k=if n<9223372036854775808 then k (.int 3 n) H else no 0:=by
 unfold ke
 rw [bA]
 simp
theorem TL {x}:aM (.ab0 x) id ph e H k=dZ id (ay x e) λn _=>ke id n H k:=by
 show aH x e (λx=>dZ id x λn _=>ke id n H k)=_
 rw [aq]
theorem JA {x}:aM (.dL x) id ph e H k=bh id (ay x e) (λ_ _ n _ _=>ke id n H k) (ke id 0 H k):=by
 show aH x e (λx=>bh id x (λ_ _ n _ _=>ke id n H k) (ke id 0 H k))=_
 rw [aq]
theorem TK {x}:aM (.KG x) id ph e H k=qp id (ay x e) (λb=>rI id (H.get b) λes=>ke id es.length H k) (ke id 0 H k):=by
 show aH x e (λx=>qp id x (λb=>dj H b λbl=>rI id bl λes=>av (KG es) λn=>ke id n H k) (ke id 0 H k))=_
 simp only [aq,aP,aw,Bj]
theorem ab4 {kd o m} {mx} {x y}:aM (.mm kd o m mx x y) id ph e H k=cw id (ay x e) λk1 a=>cw id (ay y e) λk2 b=>if k1=kd then (if k2=kd then k (.int kd (sI mx o m a b)) H else no 0) else no 0:=by
 show aH x e (λx=>cw id x λk1 a=>aH y e λy=>cw id y λk2 b=>aD (YK k1 kd) (aD (YK k2 kd) (Ek o m mx a b λr=>k (.int kd r) H) (no 0)) (no 0))=_
 simp only [aq,bA,oQ,xi]
end
section
variable {cp:RC->ai} {t:Nat->Option cF} {fuel d:Nat} {H:Heap} {k:K} {args caps:List V} {f F:Nat} {ps:List Slot} {res:List RV} {c:ai}
noncomputable def tI (res:List RV) (k:K) (e:Env) (H:Heap):R:=wG res e H λl=>HZ l λv=>k v H
theorem ax (ht:t F=some (.code ps res c)) (hf:f%2=0) (hF:f/2=F):aj (aQ cp t fuel (d+1)) (.func f caps) args H k=fO ps (args ++ caps) C4 λe=>gZ c fuel (aQ cp t fuel d) e H (tI res k) λn e H=>if n=0 then tI res k e H else no 6:=by
 show Nat.rec (motive:=λ_=>R) (jf args caps λargs=>GA t fuel (aQ cp t fuel d) (Wf f 2) args H k) (λ_ _=>jf caps args λargs=>GA t fuel (aQ cp t fuel d) (Wf f 2) args H k) (Ys f 2)=_
 have h1:Ys f 2=0:=hf
 have h2:Wf f 2=F:=hF
 rw [h1,h2]
 rw [eL]
 show av F (λf=>Option.rec (no (100+f)) (λfn=>Td fn fuel (aQ cp t fuel d) (args ++ caps) H k) (t f))=_
 rw [aw,ht]
 show fO ps (args ++ caps) C4 (λe=>gZ c fuel (aQ cp t fuel d) e H (tI res k) λn e H=>Nat.rec (tI res k e H) (λ_ _=>no 6) n)=_
 congr 1
 funext e
 congr 1
 funext n e H
 cases n<;>rfl
@[congr] theorem Vz {l m} {e} {k} (h:l=m):fO ps l e k=fO ps m e k:=by rw [h]
@[congr] theorem XC {x y} {k} (h:x=y):cm H x k=cm H y k:=by rw [h]
@[congr] theorem XD {id b c} {x y} {k} (h':b=c) (h:x=y):cQ id H b x k=cQ id H c y k:=by simp_all
@[congr] theorem Vu {id} {l m} {k} (h:l=m):ig id l k=ig id m k:=by rw [h]
theorem Lk {e} {k}:fO [] [] e k=k e:=YU rfl rfl
theorem Ik {s} {v} {ps} {l} {e} {k}:fO (s :: ps) (v :: l) e k=fO ps l (kP s v e) k:=by
 show Il s v e (λe'=>fO ps l e' k)=_
 rw [sA]
theorem Pe {e}:tI [] k e H=k (.cV []) H:=YU rfl rfl
theorem Pf {s} {e}:tI [.tmp s] k e H=k (aa s e) H:=by
 show jz s e (λv=>k v H)=_
 rw [eg]
theorem Pg {s s'} {e}:tI [.tmp s,.tmp s'] k e H=k (.cV [aa s e,aa s' e]) H:=by
 show jz s e (λv=>jz s' e λv'=>k (.cV [v,v']) H)=_
 rw [eg,eg]
theorem HY {s s' s2} {e}:tI [.tmp s,.tmp s',.tmp s2] k e H=k (.cV [aa s e,aa s' e,aa s2 e]) H:=by
 show jz s e (λv=>jz s' e λv'=>jz s2 e λv2=>k (.cV [v,v',v2]) H)=_
 rw [eg,eg,eg]
end
end Go.Ev
end
section
namespace Go.Ev
section
variable {id:Nat} {ph:cW} {e:Env} {H:Heap} {k:K}
theorem idx_eq {i} {len} {f}:idx id i e len f=cw id (ay i e) λkd n=>if 3<=kd then (if n<len then (if n<9223372036854775808 then f n else no 0) else no 0) else no 0:=by
 show aH i e (λv=>cw id v λkd n=>aD (YS 3 kd) (aD (Yy n len) (aD (Yy n 9223372036854775808) (f n) (no 0)) (no 0)) (no 0))=_
 simp only [aq,bA,mc,Bo]
theorem X8 {size} {x i}:aM (.tq size x i) id ph e H k=lH id (ay x e) λb o len _ _=>idx id i e len λn=>k (.ptr b (o+n*size)) H:=by
 show aH x e (λx=>lH id x λb o len _ _=>idx id i e len λn=>av (YW o (Yh n size)) λo'=>k (.ptr b o') H)=_
 simp only [aq,aw]
 rfl
theorem X7 {len size} {x i}:aM (.ZV len size x i) id ph e H k=ei id (ay x e) λb o=>idx id i e len λn=>k (.ptr b (o+n*size)) H:=by
 show aH x e (λx=>ei id x λb o=>idx id i e len λn=>av (YW o (Yh n size)) λo'=>k (.ptr b o') H)=_
 simp only [aq,aw]
 rfl
theorem ON {src dst c} {x}:aM (.qi src dst 0 c x) id ph e H k=cw id (ay x e) λk1 a=>if k1=src then k (.int dst (a%c)) H else no 0:=by
 show aH x e (λx=>cw id x λk1 a=>aD (YK k1 src) (av (Ys a c) λr=>k (.int dst r) H) (no 0))=_
 simp only [aq,bA,oQ,aw]
 rfl
theorem Ko {z} {f}:jW id e [] z f=f z:=YU rfl rfl
theorem GD {off size} {a} {ps} {z} {f}:jW id e ((off,size,a):: ps) z f=dN id (ay a e) λl=>if l.length=size then setAt id l z off λz'=>jW id e ps z' f else no 0:=by
 show aH a e (λv=>dN id v λl=>aD (YK (dL l) size) (setAt id l z off λz'=>jW id e ps z' f) (no 0))=_
 simp only [aq,bA,oQ,iJ]
theorem OL {z} {ps}:aM (.build z ps) id ph e H k=jW id e ps z λl=>k (.agg l) H:=YU rfl rfl
theorem KS {len} {z} {ps}:aM (.jP false len z ps) id ph e H k=jW id e ps z λl=>aZ id l (cm H (.cells l) λb H=>k (.slice b 0 len (len+1) 0) H):=YU rfl rfl
theorem Ht {len} {z} {ps}:aM (.jP true len z ps) id ph e H k=jW id e ps z λl=>ig id l λln n=>cm H (.bytes ln n) λb H=>k (.slice b 0 len (len+1) 0) H:=YU rfl rfl
theorem TW {neg} {x y}:aM (.Pt neg x y) id ph e H k=dZ id (ay x e) λl1 n1=>dZ id (ay y e) λl2 n2=>if l1=l2/\n1=n2 then k (.bool (!neg)) H else k (.bool neg) H:=by
 show aH x e (λx=>dZ id x λl1 n1=>aH y e λy=>dZ id y λl2 n2=>aD (YK l1 l2) (aD (YK n1 n2) (aD neg (k (.bool false) H) (k (.bool true) H)) (k (.bool neg) H)) (k (.bool neg) H))=_
 have hn:aD neg (k (.bool false) H) (k (.bool true) H)=k (.bool (!neg)) H:=by cases neg<;>rfl
 simp only [aq,bA (c:=YK _ _),oQ,hn]
 grind
theorem TV {x y}:aM (.Pq x y) id ph e H k=dZ id (ay x e) λl1 n1=>dZ id (ay y e) λl2 n2=>if l1+l2<9223372036854775808 then k (.str (l1+l2) (n1+n2*256 ^ l1)) H else no 0:=by
 show aH x e (λx=>dZ id x λl1 n1=>aH y e λy=>dZ id y λl2 n2=>av (YW l1 l2) λl=>aD (Yy l 9223372036854775808) (av (YW n1 (Yq n2 (Yh 8 l1))) λn=>k (.str l n) H) (no 0))=_
 simp only [aq,aw,bA,Bo,PC]
 rfl
theorem dS {size b o l c s} {f}:db id size H (.slice b o l c s) f=if l=0 then f 0 [] else Es id H b o (l*size) λm=>f l m:=by cases l<;>rfl
@[congr] theorem Oz {size} {x y} {f} (h:x=y):db id size H x f=db id size H y f:=by rw [h]
theorem mU {a b} {n}:Nat.rec (motive:=λ_=>R) a (λ_ _=>b) n=if n=0 then a else b:=by cases n<;>rfl
theorem dF {size} {s x}:aM (.app false size s x) id ph e H k=db id size H (ay x e) λn new=>bh id (ay s e) (λb o len cp sz=>if n=0 then k (ay s e) H else rF id size n new b o len cp sz H k)
 (if n=0 then k (ay s e) H else aZ id new (if n<=1073741824 then cm H (.cells new) λb' H=>k (.slice b' 0 n 0 size) H else no 0)):=by
 show aH s e (λs=>aH x e λx=>db id size H x λn new=>
  bh id s (λb o len cp sz=>Nat.rec (k s H) (λ_ _=>rF id size n new b o len cp sz H k) n)
  (Nat.rec (k s H) (λ_ _=>aZ id new (aD (YS n 1073741824) (cm H (.cells new) λb' H=>k (.slice b' 0 n 0 size) H) (no 0))) n))=_
 simp only [aq,mU,bA,mc]
theorem pC {size n b len} {new}:rF id size n new b 0 len 0 size H k=aZ id new (if len+n<=1073741824 then rJ id (H.get b) (λl=>if l.length=len*size then cQ id H b .dead λH=>cm H (.cells (l ++ new)) λb' H=>k (.slice b' 0 (len+n) 0 size) H else no 0) (λ_ _=>no 0) else no 0):=by
 show aZ id new (av (YW len n) λneed=>aD (YS need 1073741824)
  (aD (YK size size) (aD (YK 0 0) (dj H b λbl=>rJ id bl (λl=>aD (YK (dL l) (Yh len size)) (jf l new λl'=>cQ id H b .dead λH=>cm H (.cells l') λb' H=>k (.slice b' 0 need 0 size) H) (no 0)) (λ_ _=>no 0)) (no 0)) (no 0)) (no 0))=_
 simp only [aw,bA,mc,oQ,if_true,aP,iJ,eL]
 rfl
theorem jC {size n b o len q sz} {new} (h:q<len+n):rF id size n new b o len (q+1) sz H k=aZ id new (if len+n<=1073741824 then eC id H b o (len*size) λl=>aZ id l (cm H (.cells (l ++ new)) λb' H=>k (.slice b' 0 (len+n) 0 size) H) else no 0):=by
 show aZ id new (av (YW len n) λneed=>aD (YS need 1073741824)
  (aD (YS need q) (dU id H b (YW o (Yh len size)) new λH=>k (.slice b o need (q+1) sz) H) (eC id H b o (Yh len size) λl=>aZ id l (jf l new λl'=>cm H (.cells l') λb' H=>k (.slice b' 0 need 0 size) H))) (no 0))=_
 have hn:¬ YW len n<=q:=by simp_all
 simp only [aw,bA,mc,eL,if_neg hn]
 rfl
@[congr] theorem VZ {size n n' b o len cp sz} {new new'} (h:n=n') (h':new=new'):rF id size n new b o len cp sz H k=rF id size n' new' b o len cp sz H k:=by simp_all
theorem V3 {m a b} {f}:iS id (.add m) a b f=f ((a+b)%m):=aw _ _
theorem V8 {m a b} {f}:iS id (.sub m) a b f=f ((a+(m-b))%m):=aw _ _
theorem V5 {m a b} {f}:iS id (.mul m) a b f=f (a*b%m):=aw _ _
theorem Vc {a b}:(dW .eq a b=true)=(a=b):=oQ
theorem aa0 {a b}:(dW .ne a b=true) = ¬ (a=b):=by
 show (Bool.rec true false (YK a b)=true)=_
 rw [<- oQ]
 cases YK a b<;>simp
theorem MW {o m a b}:(dW (.lt o m) a b=true)=((a+o)%m<(b+o)%m):=Bo
theorem MV {o m a b}:(dW (.le o m) a b=true)=((a+o)%m<=(b+o)%m):=mc
theorem MU {o m a b}:(dW (.gt o m) a b=true)=((b+o)%m<(a+o)%m):=Bo
theorem I5 {o m a b}:(dW (.ge o m) a b=true)=((b+o)%m<=(a+o)%m):=mc
def nn (a:Nat):Prop:=a<9223372036854775808
theorem jl {a} (h:nn a):(a+9223372036854775808)%18446744073709551616=a+9223372036854775808:=by unfold nn at h;omega
theorem ab1 {a b} (ha:nn a) (hb:nn b):(dW (.lt 9223372036854775808 18446744073709551616) a b=true)=(a<b):=by
 rw [MW,jl ha,jl hb]
 simp
theorem abZ {a b} (ha:nn a) (hb:nn b):(dW (.le 9223372036854775808 18446744073709551616) a b=true)=(a<=b):=by
 rw [MV,jl ha,jl hb]
 simp
theorem abj {a b} (ha:nn a) (hb:nn b):(dW (.gt 9223372036854775808 18446744073709551616) a b=true)=(b<a):=by
 rw [MU,jl ha,jl hb]
 simp
theorem Dq {a b} (ha:nn a) (hb:nn b):(dW (.ge 9223372036854775808 18446744073709551616) a b=true)=(b<=a):=by
 rw [I5,jl ha,jl hb]
 simp
theorem Zo {a b} (h:b<=a) (ha:nn a):(a+(18446744073709551616-b))%18446744073709551616=a-b:=by unfold nn at ha;omega
theorem Ol {a b} (ha:nn a) (hb:nn b):sI true 9223372036854775808 18446744073709551616 a b=max a b:=by
 unfold sI
 rw [if_pos rfl,jl ha,jl hb]
 grind
theorem On {a b} (ha:nn a) (hb:nn b):sI false 9223372036854775808 18446744073709551616 a b=min a b:=by
 unfold sI
 rw [if_neg (by simp),jl ha,jl hb]
 grind
theorem XW {a} (h:a<9223372036854775808):nn a:=h
@[congr] theorem Xv {g} {a a' b b'} {f} (h:a=a') (h':b=b'):iS id g a b f=iS id g a' b' f:=by simp_all
theorem Mj {d} {f}:gi id none e d f=f d:=YU rfl rfl
theorem Mk {a} {d} {f}:gi id (some a) e d f=cw id (ay a e) λkd n=>if 3<=kd then (if n<9223372036854775808 then f n else no 0) else no 0:=by
 show aH a e (λv=>cw id v λkd n=>aD (YS 3 kd) (aD (Yy n 9223372036854775808) (f n) (no 0)) (no 0))=_
 simp only [aq,bA,mc,Bo]
def Xu (p:Nat × V):V × V:=(.int 3 p.1,p.2)
def eN (D:List (Nat × V)):List (V × V):=D.map Xu
def Ts (D:List (Nat × V)) (a:Nat):Option V:=(D.find? λp=>p.1 == a).map (·.2)
def Ce:List (Nat × V)->Nat->V->List (Nat × V)
 | [],a,v=>[(a,v)]
 | p :: D,a,v=>if p.1=a then (p.1,v):: D else p :: Ce D a v
def y9 (o:Option V) (f:V->R) (z:R):R:=match o with
 | some v=>f v
 | none=>z
@[congr] theorem Vs {o o'} {f} {z} (h:o=o'):y9 o f z=y9 o' f z:=by rw [h]
theorem HD {v} {f} {z}:y9 (some v) f z=f v:=YU rfl rfl
theorem HB {f} {z}:y9 none f z=z:=YU rfl rfl
theorem yW:∀ {D} {a} {f} {z},ui id false (eN D) (.int 3 a) f z=y9 (Ts D a) f z
 | [],a,f,z=>rfl
 | (b,v):: D,a,f,z=>by
  show aD (YK a b) (f v) (ui id false (eN D) (.int 3 a) f z)=_
  rw [bA,yW]
  by_cases h:a=b
  .subst h
   simp [Ts,y9]
  .have hb:(b == a)=false:=by simp;omega
   simp [Ts,h,hb]
theorem ER:∀ {D} {a} {y} {f},EP id false (eN D) (.int 3 a) y f=f (eN (Ce D a y))
 | [],a,y,f=>rfl
 | (b,v):: D,a,y,f=>by
  show aD (YK a b) (f ((.int 3 b,y):: eN D)) (EP id false (eN D) (.int 3 a) y λr=>f ((.int 3 b,v):: r))=_
  rw [bA,ER]
  by_cases h:a=b
  .subst h
   simp [Ce,eN,Xu]
  .have hb:¬ b=a:=λh'=>h h'.symm
   simp [Ce,eN,Xu,h,hb]
theorem TN {zero} {ok} {m x} {ks}:aM (.look ks zero ok m x) id ph e H k=qp id (ay m e) (λb=>rI id (H.get b) λes=>ui id ks es (ay x e) (λv=>if ok=true then k (.cV [v,.bool true]) H else k v H) (if ok=true then k (.cV [zero,.bool false]) H else k zero H)) (if ok=true then k (.cV [zero,.bool false]) H else k zero H):=by
 show aH m e (λm=>aH x e λx=>qp id m (λb=>dj H b λbl=>rI id bl λes=>ui id ks es x (λv=>aD ok (k (.cV [v,.bool true]) H) (k v H)) (aD ok (k (.cV [zero,.bool false]) H) (k zero H))) (aD ok (k (.cV [zero,.bool false]) H) (k zero H)))=_
 simp only [aq,aP,bA]
theorem TO {ks} {m x y}:aM (.XT ks m x y) id ph e H k=Ff id (ay m e) λb=>rI id (H.get b) λes=>isKey id (ay x e) (EP id ks es (ay x e) (ay y e) λes'=>cQ id H b (.map es') λH=>k (.cV []) H):=by
 show aH m e (λm=>aH x e λx=>aH y e λy=>Ff id m λb=>dj H b λbl=>rI id bl λes=>isKey id x (EP id ks es x y λes'=>cQ id H b (.map es') λH=>k (.cV []) H))=_
 simp only [aq,aP]
@[congr] theorem Vn {ks} {es es'} {x x'} {f} {z} (h:es=es') (h':x=x'):ui id ks es x f z=ui id ks es' x' f z:=by simp_all
@[congr] theorem Zg {ks} {es es'} {x x' y y'} {f} (h:es=es') (h':x=x') (h2:y=y'):EP id ks es x y f=EP id ks es' x' y' f:=by simp_all
end
end Go.Ev
end
section
namespace Go.Ev
section
variable {id:Nat} {ph:cW} {e:Env} {H:Heap} {k:K}
theorem KY {f}:ig id [] f=f 0 0:=YU rfl rfl
theorem HF {x} {l} {f}:ig id (.int 4 x :: l) f=ig id l λlen n=>f (len+1) (x+256*n):=by
 show aD (YK 4 4) (ig id l λlen n=>av (YW x (Yh 256 n)) λn'=>av (WI len) λlen'=>f len' n') (no 0)=_
 simp only [aw]
 rfl
theorem Oi {b off n} {f}:ma id H b off n f=rJ id (H.get b) (λl=>fj id l off λr=>takeN id r n λq=>ig id q λ_ x=>f x) λlen x=>if off+n<=len then f ((x >>> (8*off))%256 ^ n) else no 0:=by
 unfold ma
 rw [aP]
 congr 1
 funext len x
 rw [bA]
 simp only [mc,aw]
 rfl
theorem Eh {z} {l c}:aM (.mkSlice true z l c) id ph e H k=cw id (ay l e) λkl l=>cw id (ay c e) λkc c=>if 3<=kl then (if 3<=kc then (if l<=c then (if c<=16777216 then cm H (.bytes c 0) λb H=>k (.slice b 0 l (c+1) 0) H else no 0) else no 0) else no 0) else no 0:=by
 show aH l e (λl=>cw id l λkl l=>aH c e λc=>cw id c λkc c=>aD (YS 3 kl) (aD (YS 3 kc) (aD (YS l c) (aD (YS c 16777216)
  (cm H (.bytes c 0) λb H=>av (WI c) λc1=>k (.slice b 0 l c1 0) H) (no 0)) (no 0)) (no 0)) (no 0))=_
 simp only [aq,bA,mc,aw]
theorem Hv {x}:aM (.I9 x) id ph e H k=bh id (ay x e) (λb o l _ _=>ma id H b o l λn=>k (.str l n) H) (k (.str 0 0) H):=by
 show aH x e (λx=>bh id x (λb o l _ _=>ma id H b o l λn=>k (.str l n) H) (k (.str 0 0) H))=_
 rw [aq]
theorem Hz {x}:aM (.Ja x) id ph e H k=dZ id (ay x e) λl n=>if l<=16777216 then cm H (.bytes l n) λb H=>k (.slice b 0 l 0 1) H else no 0:=by
 show aH x e (λx=>dZ id x λl n=>aD (YS l 16777216) (cm H (.bytes l n) λb H=>k (.slice b 0 l 0 1) H) (no 0))=_
 simp only [aq,bA,mc]
theorem TX {size} {x} {lo hi}:aM (.slV size x lo hi none) id ph e H k=bh id (ay x e) (λb o len cp sz=>gi id lo e 0 λl=>gi id hi e len λh=>if l<=h then
 (if cp=0 then (if h<=len then (if sz=size then k (.slice b (o+l*size) (h-l) 0 sz) H else no 0) else no 0)
  else (if h<=cp-1 then (if cp-1=l then k (.slice b o (h-l) 1 0) H else k (.slice b (o+l*size) (h-l) (cp-1-l+1) 0) H) else no 0)) else no 0)
 (gi id lo e 0 λl=>gi id hi e 0 λh=>if l=0 then (if h=0 then k .aB H else no 0) else no 0):=by
 show aH x e (λx=>bh id x (λb o len cp sz=>
  gi id lo e 0 λl=>gi id hi e len λh=>aD (YS l h) (av (Wv h l) λd=>
   (Nat.rec
    (aD (YS h len) (aD (YK sz size) (av (YW o (Yh l size)) λo'=>k (.slice b o' d 0 sz) H) (no 0)) (no 0))
    (λq _=>aD (YS h q) (aD (YK q l) (k (.slice b o d 1 0) H) (av (YW o (Yh l size)) λo'=>av (WI (Wv q l)) λc'=>k (.slice b o' d c' 0) H)) (no 0)) cp)) (no 0))
  (gi id lo e 0 λl=>gi id hi e 0 λh=>aD (YK l 0) (aD (YK h 0) (aD (YK 0 0) (k .aB H) (no 0)) (no 0)) (no 0)))=_
 simp only [aq,aw,bA,mc,oQ,if_true]
 congr 1
 funext b o len cp sz
 cases cp with
 | zero=>rfl
 | succ q=>rfl
theorem TY {size} {x m} {lo hi}:aM (.slV size x lo hi (some m)) id ph e H k=bh id (ay x e) (λb o len cp sz=>gi id lo e 0 λl=>gi id hi e len λh=>if l<=h then
 (gi id (some m) e 0 λm=>if h<=m then (if m<=(if cp=0 then len else cp-1) then (if m=l then k (.slice b o (h-l) 1 0) H else k (.slice b (o+l*size) (h-l) (m-l+1) 0) H) else no 0) else no 0) else no 0)
 (gi id lo e 0 λl=>gi id hi e 0 λh=>gi id (some m) e 0 λm=>if l=0 then (if h=0 then (if m=0 then k .aB H else no 0) else no 0) else no 0):=by
 show aH x e (λx=>bh id x (λb o len cp sz=>
  gi id lo e 0 λl=>gi id hi e len λh=>aD (YS l h) (av (Wv h l) λd=>
   gi id (some m) e 0 λm=>aD (YS h m) (aD (YS m (Nat.rec len (λq _=>q) cp)) (aD (YK m l) (k (.slice b o d 1 0) H) (av (YW o (Yh l size)) λo'=>av (WI (Wv m l)) λc'=>k (.slice b o' d c' 0) H)) (no 0)) (no 0)) (no 0))
  (gi id lo e 0 λl=>gi id hi e 0 λh=>gi id (some m) e 0 λm=>aD (YK l 0) (aD (YK h 0) (aD (YK m 0) (k .aB H) (no 0)) (no 0)) (no 0)))=_
 have hc:∀ (cp len),(Nat.rec len (λq _=>q) cp:Nat)=if cp=0 then len else cp-1:=λcp len=>by cases cp<;>rfl
 simp only [aq,aw,bA,mc,oQ,hc]
 rfl
end
section
variable {cp:RC->ai} {t:Nat->Option cF} {fuel d:Nat} {H:Heap} {k:K} {args caps:List V} {f F:Nat} {g:List V->Heap->K->R}
theorem lO (ht:t F=some (.nat g)) (hf:f%2=0) (hF:f/2=F):aj (aQ cp t fuel (d+1)) (.func f caps) args H k=g (args ++ caps) H k:=by
 show Nat.rec (motive:=λ_=>R) (jf args caps λargs=>GA t fuel (aQ cp t fuel d) (Wf f 2) args H k) (λ_ _=>jf caps args λargs=>GA t fuel (aQ cp t fuel d) (Wf f 2) args H k) (Ys f 2)=_
 have h1:Ys f 2=0:=hf
 have h2:Wf f 2=F:=hF
 rw [h1,h2]
 rw [eL]
 show av F (λf=>Option.rec (no (100+f)) (λfn=>Td fn fuel (aQ cp t fuel d) (args ++ caps) H k) (t f))=_
 rw [aw,ht]
 rfl
end
end Go.Ev
end
section
namespace Go.Ev
def HN (x off ml mx:Nat):Nat:=x%256 ^ off+(mx+(x >>> (8*(off+ml)))*256 ^ ml)*256 ^ off
section
variable {id:Nat} {ph:cW} {e:Env} {H:Heap} {k:K}
theorem PI {b off} {m} {k}:dU id H b off m k=rJ id (H.get b) (λl=>aZ id m (setAt id m l off λl'=>cQ id H b (.cells l') k))
 λlen x=>ig id m λml mx=>if off+ml<=len then cQ id H b (.bytes len (HN x off ml mx)) k else no 0:=by
 rw [Is]
 congr 1
 funext len x
 congr 1
 funext ml mx
 rw [bA]
 simp only [mc,aw]
 have h:(YW (Ys x (Nat.pow 256 off)) (Yq (YW mx (Yq (Yz x (Yh 8 (YW off ml))) (Yh 8 ml))) (Yh 8 off)):Nat)=HN x off ml mx:=by
  rw [PC,PC]
  rfl
 simp_all
theorem Y3 {n size} {x} {lo hi mx}:aM (.Z0 n size x lo hi mx) id ph e H k=ei id (ay x e) λb o=>gi id mx e n λm=>gi id hi e n λh=>gi id lo e 0 λl=>if l<=h then (if h<=m then (if m<=n then (if m=l then k (.slice b o (h-l) 1 0) H else k (.slice b (o+l*size) (h-l) (m-l+1) 0) H) else no 0) else no 0) else no 0:=by
 show aH x e (λx=>ei id x λb o=>gi id mx e n λm=>gi id hi e n λh=>gi id lo e 0 λl=>aD (YS l h) (aD (YS h m) (aD (YS m n) (av (Wv h l) λd=>aD (YK m l) (k (.slice b o d 1 0) H) (av (YW o (Yh l size)) λo'=>av (WI (Wv m l)) λc'=>k (.slice b o' d c' 0) H)) (no 0)) (no 0)) (no 0))=_
 simp only [aq,aw,bA,mc,oQ]
 rfl
theorem V7 {half bits a b} {f}:iS id (.shr half bits) a b f=if a<half then (if b<=bits then f (a >>> b) else (if b<9223372036854775808 then f 0 else no 0)) else no 0:=by
 show aD (Yy a half) (aD (YS b bits) (av (Yz a b) f) (aD (Yy b 9223372036854775808) (f 0) (no 0))) (no 0)=_
 simp only [aw,bA,mc,Bo]
 rfl
theorem V6 {m bits a b} {f}:iS id (.shl m bits) a b f=if b<=bits then f ((a <<< b)%m) else (if b<9223372036854775808 then f 0 else no 0):=by
 show aD (YS b bits) (av (Ys (Yq a b) m) f) (aD (Yy b 9223372036854775808) (f 0) (no 0))=_
 simp only [aw,bA,mc,Bo]
 rfl
theorem V4 {a b} {f}:iS id .bor a b f=f (a ||| b):=aw _ _
end
def tv (l:List UInt8):V:=.str l.length (enc l)
end Go.Ev
end
section
namespace Go.Ev
def qL:ai->Option (RC × RC)
 | .seq a b=>match qL a with
  | some r=>some r
  | none=>qL b
 | .cond _ a b=>match qL a with
  | some r=>some r
  | none=>qL b
 | .block _ a=>qL a
 | .loop a=>qL a
 | .kz _ _ a b=>some (a,b)
 | .Bz _ _ a b=>some (a,b)
 | _=>none
def Y5 (o:Option cF):RC × RC:=match o with
 | some (.code _ _ c)=>(qL c).getD (⟨0,0,.ret⟩,⟨0,0,.ret⟩)
 | _=>(⟨0,0,.ret⟩,⟨0,0,.ret⟩)
section
variable {id:Nat} {ph:cW} {e:Env} {H:Heap} {k:K} {fuel:Nat} {kn:KE} {kx:Nat->KE}
theorem Gv {g} {ps} {asL bo} {f} {caps} (hw:H.wf) (hg:ay g e = .func f caps) (hf:f%2=0) {G} {v}
 (hcall:∀ k:K,aj ph (.func f caps) [.sK (H.n+1)] ((H.new .mark).new (.loop 0 0 e ps asL bo)) k=k v G) {e'} {ps'} {as' bo'} (hG:G.get (H.n+1) = .loop 0 0 e' ps' as' bo') (hGw:G.wf) (hGn:H.n+1<G.n):
 gZ (.kz g ps asL bo) fuel ph e H kn kx=kn e (G.put (H.n+1) (.loop 3 0 e' ps' as' bo')):=by
 show aH g e (λg=>xJ 0 g λf caps=>Nat.rec (cm H .mark λ_ H=>cm H (.loop 0 0 e ps asL bo) λb H=>ph (.func f caps) [.sK b] H λ_ H=>
  dj H b λbl=>eP bl λst j e' ps' as' bo'=>Nat.rec (cQ 0 H b (.loop 3 j e' ps' as' bo') λH=>Nat.rec (kn e H) (λm _=>kx m e H) j) (λs _=>Nat.rec (no 10) (λ_ _=>cQ 0 H b (.loop 3 j e' ps' as' bo') λH=>Nat.rec (kn e H) (λm _=>kx m e H) j) s) st) (λ_ _=>no 14) (Ys f 2))=_
 rw [aq,hg]
 show Nat.rec (motive:=λ_=>R) _ _ (Ys f 2)=_
 have hf':Ys f 2=0:=hf
 rw [hf']
 rw [cP hw,cP (by rw [Heap.aY];omega),Heap.aN]
 refine (hcall _).trans ?_
 rw [aP,hG]
 show cQ 0 G (H.n+1) (.loop 3 0 e' ps' as' bo') (λH=>kn e H)=_
 rw [fm hGw hGn]
theorem pE {cp} {t} {d b} {args}:aj (aQ cp t fuel (d+1)) (.sK b) args H k=Vf cp fuel (aQ cp t fuel d) b args H k:=YU rfl rfl
theorem wv {ops}:gZ (.XA ops) fuel ph e H kn kx=bG ph H.n ops e H [] [] kn:=by rfl
variable {n0:Nat} {l:List uD} {fl st:List (Nat × Nat)} {dd:Option Slot} {i bf:Nat} {ad:Arg} {op:kV}
theorem qJ:bG ph n0 [] e H fl st kn=kn e H:=YU rfl rfl
theorem gH:bG ph n0 (⟨id,dd,none,0,i,bf,ad,op⟩:: l) e H fl st kn=aM op id ph e H λv H'=>bG ph n0 l (dP dd v e) H' fl st kn:=by
 show aM op id ph e H (λv H'=>bZ dd v e λe'=>bG ph n0 l e' H' fl st kn)=_
 simp only [cz]
theorem mE {id bf b} {k}:dM id bf b [] k=k:=YU rfl rfl
theorem Cm {id bf b i' b'} {l} {k}:dM id bf b ((i',b'):: l) k=if Nat.testBit bf i'=true then dM id bf b l k else if b=b' then no 0 else dM id bf b l k:=by
 show aD (Nat.testBit bf i') (dM id bf b l k) (aD (YK b b') (no 0) (dM id bf b l k))=_
 rw [bA,bA]
 simp
theorem wz {b o} (hb:ay ad e = .ptr b o) (hlt:b<n0) {v} (hop:∀ k:K,aM op id ph e H k=k v H) (hst:∀ k:R,dM id bf b st k=k):
 bG ph n0 (⟨id,dd,none,2,i,bf,ad,op⟩:: l) e H fl st kn=bG ph n0 l (dP dd v e) H ((i,b):: fl) st kn:=by
 show aH ad e (λa=>nS id a λob=>Option.rec (no 0) (λb=>aD (Yy b n0) (dM id bf b st (aM op id ph e H λv H'=>bZ dd v e λe'=>bG ph n0 l e' H ((i,b):: fl) st kn)) (no 0)) ob)=_
 rw [aq,hb]
 show aD (Yy b n0) (dM id bf b st (aM op id ph e H λv H'=>bZ dd v e λe'=>bG ph n0 l e' H ((i,b):: fl) st kn)) (no 0)=_
 rw [bA,if_pos (by simp_all),hst,hop,cz]
end
section
variable {ph:cW} {e:Env} {H:Heap} {kn:KE} {kx:Nat->KE} {n0 id:Nat} {l:List uD} {hs:List Heap} {bs:List Nat} {dd:Option Slot} {i bf fuel:Nat} {ad:Arg} {op:kV}
theorem abd {ops}:gZ (.ZK ops) fuel ph e H kn kx=fk ph H.n ops e H [] [] kn:=by rfl
theorem EJ:∀ {l} {k},(∀ v ∈ l,∃ k n,v = .int k n)->qT l l k=k
 | [],k,_=>rfl
 | v :: l,k,h=>by
  obtain ⟨q,n,rfl⟩:=h v (YJ ..)
  show aD (YK q q) (aD (YK n n) (qT l l k) (no 0)) (no 0)=_
  rw [bA,if_pos (show YK q q=true from by simp),bA,if_pos (show YK n n=true from by simp)]
  exact EJ λw hw=>h w (YI _ hw)
end
end Go.Ev
end
section
namespace Go.Ev
attribute [go_sem ↓] Ik Lk NH Tc Ta ND NC NG Kl NF Tb Gy Gz Km C5 C6 Gw ua AW Y1 TU TQ TP OS X4 OP OQ KT KU TT X3 X5 X6 TM TH TJ TG X9 TF OM TL JA TK ab4 X8 X7 ON OL KS Ht TW TV TN TO Ko GD Jq idx_eq KY HF Oi Eh Hv Hz TX TY Mj Mk V3 V8 V5 Oj oI Y7 BC La K9 mS zy PI Y3 V7 V6 V4 pC jC cP fm xK Iz P1 P0 BZ cX fF PZ LD PY P2 LF IB Fa IE ID BX Fc IC Fb IA yN GN yP Ky DC GP Kx GO Kw KP Ho Ed Hp KO Hm XJ XI XG XF ir JY Me kY FJ OD Ee gE fP Lj sy dS yW ER HD HB Pe Pf Pg HY
attribute [go_sem] List.append_nil List.nil_append List.cons_append Vc aa0 ab1 abZ abj Dq Zo Ol On XW HM HL T5 T0 eT Slot.mk.injEq and_true and_false true_and false_and not_true_eq_false not_false_eq_true if_true if_false Nat.zero_shiftRight Nat.zero_mod Nat.add_zero Nat.zero_add Nat.zero_mul Nat.mul_one Nat.one_mul Yd YA Bool.not_true Bool.not_false Bool.false_eq_true Bool.true_eq_false eq_self List.length_cons List.length_nil List.length_map List.length_append List.set_cons_succ List.set_cons_zero List.map_cons List.map_nil List.take_succ_cons List.take_zero List.take_nil List.drop_succ_cons List.drop_zero List.drop_nil Heap.aF Heap.aE Heap.bE Heap.aY Heap.aT Heap.aN Heap.iM Heap.Ov Heap.Fk Heap.Ds Heap.dV Heap.BV Heap.EX Heap.EY Heap.B8
attribute [go_sem] reduceCtorEq ZA ZB ZC ZD ZF ZG ZH
attribute [go_sem ↓] reduceIte
end Go.Ev
end
section
namespace Go.Ev
open Go.RowKit
open Classical
noncomputable def qt (N:Nat) (v:Value):V:=match mJ v with
 | some u=>u
 | none=>match v with
  | .slice (some a) l cap=>if l<=cap then (if a.spot=none/\a.block<N then .slice a.block a.off l (cap+1) 0 else if cap=0 then .slice N a.off 0 1 0 else .cV []) else .cV []
  | .pointer (some a)=>if a.spot=none/\a.block<N then .ptr a.block a.off else .cV []
  | .map (some b)=>if b<N then .map b else .cV []
  | _=>.cV []
noncomputable def sj (N:Nat) (c:Array Value) (fr:Nat × Nat):List V:=c.toList.mapIdx λi v=>if fr.1<=i/\i<fr.2 then .cV [] else qt N v
noncomputable def LO (w:World) (b:Nat):eB:=if GB b then .dead else match w.heap[b]? with
 | some (.cells c _ fr)=>.view (sj w.heap.size c fr)
 | _=>.dead
noncomputable def nT (w:World):Nat->Heap
 | 0=>H0
 | n+1=>(nT w n).new (LO w n)
noncomputable def dQ (w:World):Heap:=(nT w (w.heap.size+1)).mark
noncomputable def xr (w:World) (b:Nat):Option Nat:=if (LO w b).alive then some b else none
theorem lK (w):∀ n,(nT w n).wf/\(nT w n).n=n/\∀ b,(nT w n).get b=if b<n then LO w b else .dead
 | 0=>⟨λb h=>absurd h (Nat.not_lt_zero b),rfl,λb=>by rfl⟩
 | n+1=>by
  obtain ⟨h1,h2,h3⟩:=lK w n
  refine ⟨by unfold nT;rw [Heap.aY];omega,by unfold nT;rw [Heap.aN,h2],λb=>?_⟩
  unfold nT
  rw [Heap.aE h1,h2,h3]
  grind
theorem Ma (w):(dQ w).wf:=by unfold dQ;rw [Heap.dV];exact (lK w _).1
theorem kW (w):(dQ w).n=w.heap.size+1:=by unfold dQ;rw [Heap.Ov];exact (lK w _).2.1
theorem yp (w):(dQ w).bj=w.heap.size+1:=by unfold dQ;rw [Heap.Fk];exact (lK w _).2.1
theorem AZ {w} {b} (h:w.heap.size<=b):LO w b = .dead:=by
 unfold LO
 simp_all
theorem jB (w) (b):(dQ w).get b=LO w b:=by
 unfold dQ
 rw [Heap.Ds,(lK w _).2.2]
 split
 .rfl
 .rw [AZ (by omega)]
theorem tf {w} {b} (h:(LO w b).alive):(∃ c e fr,w.heap[b]? = some (.cells c e fr)/\LO w b = .view (sj w.heap.size c fr))/\¬ GB b:=by
 unfold LO at h ⊢
 by_cases hg:GB b
 .rw [if_pos hg]at h;exact h.elim
 .rw [if_neg hg]at h ⊢
  split at h
  .grind
  .exact h.elim
theorem IF (w) (v) (h:(qt w.heap.size v).one=true):VR (mu (xr w) (dQ w) w) (qt w.heap.size v) v:=by
 have hb:∀ b,b<w.heap.size->(mu (xr w) (dQ w) w).b b b:=λb hb=>⟨by rw [kW];omega,λha=>by rw [jB]at ha;exact if_pos ha⟩
 unfold qt at h ⊢
 cases hc:mJ v with
 | some u=>exact (qC hc).1
 | none=>
  rw [hc]at h
  simp only at h ⊢
  split at h
  .rename_i a l cap
   split at h
   .rename_i hl
    rw [if_pos hl]
    split at h
    .rename_i hs
     rw [if_pos hs]
     obtain ⟨b,off,spot⟩:=a
     obtain ⟨rfl,hbs⟩:=hs
     exact ⟨b,cap,off,none,rfl,hb b hbs,hl,⟨λq hq=>by omega,λh=>by omega⟩,Or.inl ⟨rfl,rfl⟩⟩
    .rename_i hs
     rw [if_neg hs]
     split at h
     .rename_i h0
      subst h0
      obtain rfl:l=0:=by omega
      exact ⟨a.block,0,a.off,a.spot,rfl,⟨by rw [kW];omega,λha=>by rw [jB,AZ (YA _)]at ha;exact ha.elim⟩,YA _,⟨λq hq=>by omega,λh=>by omega⟩,YD rfl⟩
     .cases h
   .cases h
  .rename_i a
   split at h
   .rename_i hs
    rw [if_pos hs]
    obtain ⟨b,off,spot⟩:=a
    simp only [VR]
    simp_all
   .cases h
  .split at h
   .rename_i hs
    rw [if_pos hs]
    simp only [VR]
    simp_all
   .cases h
  .cases h
theorem EC {N} {c} {fr} {i} {cv} (h:c[i]? = some cv) (hf:¬ (fr.1<=i/\i<fr.2)):(sj N c fr)[i]? = some (qt N cv):=by
 unfold sj
 grind
section
variable {P:Program} {base:Nat} {w0 w w':World} {rho:Nat->Option Nat} {H H':Heap}
theorem PR.late (h:PR P base w0 rho H w) (hbl:Below w.heap.size w w') {bl:eB} {o:Obj} {g:Nat} (hn:H'.n=H.n+1) (hw:H'.bj=H.bj) (hg:H'.get H.n=bl) (ho:∀ j,j≠H.n->H'.get j=H.get j)
 (ha:bl.alive) (hgs:w.heap.size<=g) (hnew:w'.heap[g]? = some o) (hb:BR P (mu rho H w) bl o):
 PR P base w0 (λb=>if b=H.n then some g else rho b) H' w'/\Ext rho H w (λb=>if b=H.n then some g else rho b) H' w':=by
 have hlt:=h.lt
 have hgl:g<w'.heap.size:=(YL.1 hnew).1
 have hE:Ext rho H w (λb=>if b=H.n then some g else rho b) H' w':=by
  refine ⟨by omega,by omega,hbl.size,λb hb _=>⟨ho b (by omega),by simp [QV hb]⟩,λb c hb hr=>?_,λb c hr _=>?_,λb hb hal=>?_,λb c hb hr=>?_,λc hc _=>hbl.block c hc,λb hm=>?_,λc cs e fr hc=>⟨cs,e,fr,(hbl.block c (YL.1 hc).1).trans hc,rfl⟩,λc r hc=>⟨r,(hbl.block c (YL.1 hc).1).trans hc⟩⟩
  .simpa [QV hb] using hr
  .have:=hlt b c hr;simp [QV this,hr]
  .rwa [ho b (by omega)]at hal
  .by_cases hb':b=H.n
   .simp [hb']at hr;omega
   .simp [hb']at hr;have:=hlt b c hr;omega
  .have hb':b≠H.n:=λe=>by subst e;rw [h.out H.n (YA _)]at hm;cases hm
   exact ⟨(ho b hb').trans hm,by simp [hb'],λc hc=>hbl.block c (h.jt b c hc).2.2.1⟩
 refine ⟨⟨h.below.trans (hbl.mono h.cM),Yn h.cM hbl.size,by have:=h.wn;omega,λb c hr=>?_,λb b' c hr hr'=>?_,λb c hr=>?_,λb hb'=>?_,h.gl.step hE⟩,hE⟩
 .by_cases hb':b=H.n
  .subst hb'
   simp at hr
   subst hr
   exact ⟨by omega,Yn h.cM hgs,hgl,by rw [hg];exact ha⟩
  .simp [hb']at hr
   obtain ⟨h1,h2,h3,h4⟩:=h.jt b c hr
   exact ⟨by omega,h2,Nat.lt_of_lt_of_le h3 hbl.size,by rw [ho b hb'];exact h4⟩
 .by_cases h1:b=H.n<;>by_cases h2:b'=H.n<;>simp [h1,h2]at hr hr'
  .omega
  .have:=(h.jt b' c hr').2.2.1;omega
  .have:=(h.jt b c hr).2.2.1;omega
  .exact h.inj b b' c hr hr'
 .by_cases hb':b=H.n
  .subst hb'
   simp at hr
   subst hr
   exact ⟨o,hnew,by rw [hg];exact hb.mono hE.mu⟩
  .simp [hb']at hr
   obtain ⟨o',h1,h2⟩:=h.cO b c hr
   refine ⟨o',(hbl.block c (h.jt b c hr).2.2.1).trans h1,?_⟩
   rw [ho b hb']
   exact h2.mono hE.mu
 .rw [ho b (by omega)]
  exact h.out b (by omega)
end
section
variable {P:Program}
theorem PR.dQ (w:World) (hg:GQ w/\∀ c,GB c->c<w.heap.size:=by exact Gno):PR P 0 w (xr w) (Ev.dQ w) w:=by
 have hr:∀ b c,xr w b=some c->b=c/\(LO w b).alive:=λb c h=>by
  unfold xr at h
  split at h
  .rename_i ha;cases h;exact ⟨rfl,ha⟩
  .cases h
 refine ⟨Below.refl _ _,Yd _,by rw [yp,kW];exact YA _,λb c h=>?_,λb b' c h h'=>(hr _ _ h).1.trans (hr _ _ h').1.symm,λb c h=>?_,λb hb=>?_,hg.1,hg.2,λb c h=>?_⟩
 .obtain ⟨rfl,ha⟩:=hr _ _ h
  obtain ⟨⟨cs,e,fr,h1,h2⟩,_⟩:=tf ha
  have hlt:=(YL.1 h1).1
  exact ⟨by rw [kW];omega,Yd _,hlt,by rw [jB];exact ha⟩
 .obtain ⟨rfl,ha⟩:=hr _ _ h
  obtain ⟨⟨cs,e,fr,h1,h2⟩,_⟩:=tf ha
  refine ⟨_,h1,?_⟩
  rw [jB,h2]
  refine ⟨cs,e,fr,rfl,λi v hi ho=>?_⟩
  unfold sj at hi
  rw [List.getElem?_mapIdx,Array.getElem?_toList]at hi
  obtain ⟨cv,h3,h4⟩:=Option.map_eq_some_iff.1 hi
  split at h4
  .subst h4;cases ho
  .rename_i hf
   subst h4
   exact ⟨⟨cv,h3,IF w cv ho⟩,hf⟩
 .rw [kW]at hb
  rw [jB,AZ (by omega)]
 .obtain ⟨rfl,ha⟩:=hr _ _ h
  exact (tf ha).2
end
end Go.Ev
end

