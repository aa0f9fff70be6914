/- Lg: a part of the evaluator,of its logic,or of the laws' walk in it. -/
import Derived.Test.YtalmhjlkdhlbiaaGreatDoorEvD
open Nat renaming le_refl → YA,beq → YL,ble → YS,add → YX,mul → Yg,zero_le → Yk,le_trans → Ym,shiftLeft → Yp,mod → Yr,blt → Yv,shiftRight → Yx,succ → WH,ble_eq_true_of_le → WQ,div → WX,sub → Wx,le_of_lt → QN,ne_of_lt → QW
open Or renaming inr → YE
open Array renaming getElem?_eq_some_iff → YK
open Eq renaming trans → YV
set_option linter.unusedVariables false
set_option linter.unusedSimpArgs false
set_option linter.unusedSectionVars false
open Nat renaming reduceAdd→ZA,reduceSub→ZB,reduceMul→ZC,reduceEqDiff→ZD,reduceLT→ZE,reduceDiv→ZF,reduceMod→ZG,reduceLeDiff→ZH
section
namespace Go.Ev
def HT.has:HT->Nat->Prop
 | .e,_=>False
 | .n _ _ _,0=>True
 | .n _ l r,j+1=>if j % 2=0 then l.has (j / 2) else r.has (j / 2)
def HT.put (x:ee):HT->Nat->HT
 | .e,_=>.n x .e .e
 | .n _ l r,0=>.n x l r
 | .n u l r,j+1=>if j % 2=0 then .n u (l.put x (j / 2)) r else .n u l (r.put x (j / 2))
def HT.can:HT->Nat->Prop
 | .e,k=>k=0
 | .n _ _ _,0=>True
 | .n _ l r,j+1=>if j % 2=0 then l.can (j / 2) else r.can (j / 2)
theorem HT.AQ:∀ (t:HT) (k:Nat),t.has k->t.can k
 | .e,_,h=>h.elim
 | .n _ _ _,0,_=>trivial
 | .n _ l r,j+1,h=>by
  simp only [HT.has,HT.can]at h ⊢
  split
  .rename_i hj;rw [if_pos hj]at h;exact AQ l _ h
  .rename_i hj;rw [if_neg hj]at h;exact AQ r _ h
theorem HT.v7:∀ (t:HT) (k:Nat),(∀ j,j<k->t.has j)->t.can k
 | .e,k,h=>by
  cases k with
  | zero=>rfl
  | succ k=>exact (h 0 (by omega)).elim
 | .n _ _ _,0,_=>trivial
 | .n u l r,j+1,h=>by
  simp only [HT.can]
  split
  .rename_i hj
   refine v7 l _ λi hi=>?_
   have:=h (2*i+1) (by omega)
   simp only [HT.has]at this
   rw [if_pos (by omega),show 2*i/2=i by omega]at this
   exact this
  .rename_i hj
   refine v7 r _ λi hi=>?_
   have:=h (2*i+1+1) (by omega)
   simp only [HT.has]at this
   rw [if_neg (by omega),show (2*i+1)/2=i by omega]at this
   exact this
theorem HT.vF {x:ee}:∀ (t:HT) (k:Nat) (c:HT->R),t.can k->t.set x k c=c (t.put x k)
 | .e,k,c,h=>by
  simp only [HT.can]at h
  subst h
  rfl
 | .n _ _ _,0,_,_=>rfl
 | .n u l r,j+1,c,h=>by
  simp only [HT.can]at h
  show Nat.rec (motive:=λ_=>R) (l.set x (j/2) λl'=>c (.n u l' r)) (λ_ _=>r.set x (j/2) λr'=>c (.n u l r')) (j%2)=_
  simp only [HT.put]
  by_cases hj:j%2=0
  .rw [if_pos hj]at h ⊢
   rw [hj]
   exact vF l _ _ h
  .rw [if_neg hj]at h ⊢
   rw [show j%2=1 by omega]
   exact vF r _ _ h
theorem HT.aF {x:ee}:∀ (t:HT) (k j:Nat),t.can k->(t.put x k).get j=if j=k then x else t.get j
 | .e,k,j,h=>by
  simp only [HT.can]at h
  subst h
  cases j with
  | zero=>rfl
  | succ j=>simp only [HT.put,HT.cK,HT.ue];simp
 | .n u l r,0,j,_=>by
  cases j with
  | zero=>rfl
  | succ j=>simp only [HT.put,HT.cK];simp
 | .n u l r,k+1,j,h=>by
  simp only [HT.can]at h
  by_cases hk:k%2=0
  .rw [if_pos hk]at h
   simp only [HT.put,if_pos hk]
   cases j with
   | zero=>simp [HT.Dk]
   | succ j=>
    simp only [HT.cK,aF l _ _ h]
    by_cases hj:j%2=0
    .simp only [if_pos hj]
     by_cases he:j=k
     .subst he;simp
     .rw [if_neg (by omega),if_neg (by omega)]
    .simp only [if_neg hj]
     rw [if_neg (by omega)]
  .rw [if_neg hk]at h
   simp only [HT.put,if_neg hk]
   cases j with
   | zero=>simp [HT.Dk]
   | succ j=>
    simp only [HT.cK,aF r _ _ h]
    by_cases hj:j%2=0
    .simp only [if_pos hj]
     rw [if_neg (by omega)]
    .simp only [if_neg hj]
     by_cases he:j=k
     .subst he;simp
     .rw [if_neg (by omega),if_neg (by omega)]
theorem HT.vr {x:ee}:∀ (t:HT) (k j:Nat),t.can k->((t.put x k).has j↔j=k\/t.has j)
 | .e,k,j,h=>by
  simp only [HT.can]at h
  subst h
  cases j with
  | zero=>simp [HT.put,HT.has]
  | succ j=>simp only [HT.put,HT.has];split<;>simp
 | .n u l r,0,j,_=>by
  cases j with
  | zero=>simp [HT.put,HT.has]
  | succ j=>simp [HT.put,HT.has]
 | .n u l r,k+1,j,h=>by
  simp only [HT.can]at h
  by_cases hk:k%2=0
  .rw [if_pos hk]at h
   simp only [HT.put,if_pos hk]
   cases j with
   | zero=>simp [HT.has]
   | succ j=>
    simp only [HT.has]
    by_cases hj:j%2=0
    .simp only [if_pos hj,vr l _ _ h]
     constructor<;>rintro (h|h)<;>first|exact YE h|(left;omega)
    .simp only [if_neg hj]
     constructor
     .exact YE
     .rintro (h|h)
      .omega
      .exact h
  .rw [if_neg hk]at h
   simp only [HT.put,if_neg hk]
   cases j with
   | zero=>simp [HT.has]
   | succ j=>
    simp only [HT.has]
    by_cases hj:j%2=0
    .simp only [if_pos hj]
     constructor
     .exact YE
     .rintro (h|h)
      .omega
      .exact h
    .simp only [if_neg hj,vr r _ _ h]
     constructor<;>rintro (h|h)<;>first|exact YE h|(left;omega)
def Heap.wf (H:Heap):Prop:=∀ b,b<H.n->H.t.has b
open Classical in
noncomputable def Heap.put (H:Heap) (b:Nat) (x:ee):Heap:=if H.wf/\b<H.n then .mk H.n (if H.bC<=b then H.bC else b) (H.t.put x b) else H
open Classical in
noncomputable def Heap.new (H:Heap) (x:ee):Heap:=.mk (H.n+1) H.bC (if H.wf then H.t.put x H.n else H.t)
section
variable {H:Heap} {b:Nat} {x y:ee}
theorem Heap.mJ (h:H.wf) (hb:b<H.n):H.put b x = .mk H.n (if H.bC<=b then H.bC else b) (H.t.put x b):=if_pos ⟨h,hb⟩
theorem Heap.Bg (h:H.wf):H.new x = .mk (H.n+1) H.bC (H.t.put x H.n):=by
 unfold Heap.new
 rw [if_pos h]
theorem Heap.aT:(H.put b x).n=H.n:=by
 unfold Heap.put
 split<;>rfl
theorem Heap.aO:(H.new x).n=H.n+1:=YV rfl rfl
theorem Heap.BT:(H.new x).bC=H.bC:=YV rfl rfl
theorem Heap.TY (h:H.wf) (hb:b<H.n):(H.put b x).bC=if H.bC<=b then H.bC else b:=by rw [Heap.mJ h hb];rfl
theorem Heap.wf.can (h:H.wf) (hb:b<=H.n):H.t.can b:=by
 rcases Nat.lt_or_eq_of_le hb with hb|rfl
 .exact H.t.AQ b (h b hb)
 .exact H.t.v7 _ h
theorem Heap.bI:(H.put b x).wf=H.wf:=by
 by_cases h:H.wf/\b<H.n
 .rw [Heap.mJ h.1 h.2]
  exact propext ⟨λ_=>h.1,λ_ j hj=>(HT.vr _ _ _ (h.1.can (QN h.2))).2 (YE (h.1 j hj))⟩
 .unfold Heap.put
  rw [if_neg h]
theorem Heap.bg:(H.new x).wf=H.wf:=by
 by_cases h:H.wf
 .rw [Heap.Bg h]
  exact propext ⟨λ_=>h,λ_ j hj=>(HT.vr _ _ _ (h.can (YA _))).2 (by
   have:j<H.n+1:=hj
   rcases Nat.lt_or_ge j H.n with h'|h'
   .exact YE (h j h')
   .exact Or.inl (by omega))⟩
 .refine propext ⟨λh2=>absurd (λj hj=>?_) h,λh2=>absurd h2 h⟩
  have:=h2 j (Nat.lt_succ_of_lt hj)
  unfold Heap.new at this
  rw [if_neg h]at this
  exact this
theorem Heap.aF (h:H.wf) (hb:b<H.n) (j:Nat):(H.put b x).get j=if j=b then x else H.get j:=by
 rw [Heap.mJ h hb]
 exact HT.aF _ _ _ (h.can (QN hb))
theorem Heap.aH (h:H.wf) (j:Nat):(H.new x).get j=if j=H.n then x else H.get j:=by
 rw [Heap.Bg h]
 exact HT.aF _ _ _ (h.can (YA _))
theorem fi {id} {k} (h:H.wf) (hb:b<H.n):cV id H b x k=k (H.put b x):=by
 rw [Heap.mJ h hb]
 cases H with
 | mk n bC t=>
  show aE (Yv b n) (HT.set x t b λt'=>aE (YS bC b) (k (.mk n bC t')) (k (.mk n b t'))) (no 0)=_
  have hb':=hb
  have h1:Yv b n=true:=WQ hb'
  rw [h1]
  rw [HT.vF t _ _ (h.can (QN hb))]
  show aE (YS bC b) _ _=k (.mk n (if bC<=b then bC else b) (t.put x b))
  by_cases hw:bC<=b
  .rw [WQ hw,if_pos hw];rfl
  .have:YS bC b=false:=by
    cases hc:YS bC b with
    | false=>rfl
    | true=>exact absurd (Nat.le_of_ble_eq_true hc) hw
   rw [this,if_neg hw];rfl
theorem cS {k} (h:H.wf):cA H x k=k H.n (H.new x):=by
 rw [Heap.Bg h]
 cases H with
 | mk n bC t=>
  show HT.set x t n (λt'=>av (WH n) λn'=>k n (.mk n' bC t'))=_
  rw [HT.vF t n _ (h.can (YA n)),ay]
  rfl
end
theorem HT.iI {x y:ee}:∀ (t:HT) (k:Nat),t.can k->(t.put x k).put y k=t.put y k
 | .e,k,h=>by
  simp only [HT.can]at h
  subst h
  rfl
 | .n _ _ _,0,_=>rfl
 | .n u l r,k+1,h=>by
  simp only [HT.can]at h
  simp only [HT.put]
  by_cases hk:k%2=0
  .rw [if_pos hk]at h
   simp only [if_pos hk,HT.put,iI l _ h]
  .rw [if_neg hk]at h
   simp only [if_neg hk,HT.put,iI r _ h]
theorem Heap.iI {H:Heap} {b:Nat} {x y:ee}:(H.put b x).put b y=H.put b y:=by
 by_cases h:H.wf/\b<H.n
 .have h1:(H.put b x).wf:=by rw [Heap.bI];exact h.1
  have h2:b<(H.put b x).n:=by rw [Heap.aT];exact h.2
  rw [Heap.mJ h1 h2,Heap.mJ h.1 h.2,Heap.mJ h.1 h.2]
  show Heap.mk H.n (if (if H.bC<=b then H.bC else b)<=b then (if H.bC<=b then H.bC else b) else b) ((H.t.put x b).put y b)=Heap.mk H.n _ _
  rw [HT.iI _ _ (h.1.can (QN h.2))]
  congr 1
  split<;>simp_all
 .have e:H.put b x=H:=if_neg h
  rw [e]
theorem bF {c} {t f}:aE c t f=if c=true then t else f:=by cases c<;>rfl
@[simp] theorem Bf {a b}:(Yv a b=true)=(a<b):=by
 simp
@[simp] theorem lC {a b:Nat}:(YS a b=true)=(a<=b):=by
 simp
@[simp] theorem oz {a b:Nat}:(YL a b=true)=(a=b):=by
 simp
end Go.Ev
end
section
namespace Go.Ev
section
variable {id:Nat} {x y:V}
@[congr] theorem Zc {f} (h:x=y):cC id x f=cC id y f:=by rw [h]
@[congr] theorem Vj {f} (h:x=y):eF id x f=eF id y f:=by rw [h]
@[congr] theorem Zf {f} (h:x=y):ec id x f=ec id y f:=by rw [h]
@[congr] theorem Ze {f} (h:x=y):dQ id x f=dQ id y f:=by rw [h]
@[congr] theorem TV {f} (h:x=y):lF id x f=lF id y f:=by rw [h]
@[congr] theorem Re {f} {z} (h:x=y):bz id x f z=bz id y f z:=by rw [h]
@[congr] theorem Zd {f} (h:x=y):EL id x f=EL id y f:=by rw [h]
@[congr] theorem Vk {f} {z} (h:x=y):qg id x f z=qg id y f z:=by rw [h]
@[congr] theorem Y9 {f} (h:x=y):jj id x f=jj id y f:=by rw [h]
@[congr] theorem Zg {f} (h:x=y):yk id x f=yk id y f:=by rw [h]
@[congr] theorem TT {f} (h:x=y):dO id x f=dO id y f:=by rw [h]
@[congr] theorem U2 {f} (h:x=y):dZ id x f=dZ id y f:=by rw [h]
@[congr] theorem U1 {f} (h:x=y):isKey id x f=isKey id y f:=by rw [h]
@[congr] theorem U8 {f} (h:x=y):gf id x f=gf id y f:=by rw [h]
@[congr] theorem Zs {b} {t f} (h:x=y):EY x b t f=EY y b t f:=by rw [h]
theorem xM {k n} {f}:cC id (.int k n) f=f k n:=YV rfl rfl
theorem HV {b} {f}:eF id (.bool b) f=f b:=YV rfl rfl
theorem P5 {l n} {f}:ec id (.str l n) f=f l n:=YV rfl rfl
theorem P2 {b o} {f}:dQ id (.ptr b o) f=f b o:=YV rfl rfl
theorem BO {b o l c s} {f}:lF id (.slice b o l c s) f=f b o l c s:=YV rfl rfl
theorem cZ {b o l c s} {f} {z}:bz id (.slice b o l c s) f z=f b o l c s:=YV rfl rfl
theorem fH {f} {z}:bz id .aw f z=z:=YV rfl rfl
theorem P0 {b} {f}:EL id (.map b) f=f b:=YV rfl rfl
theorem Lc {b} {f} {z}:qg id (.map b) f z=f b:=YV rfl rfl
theorem PZ {l} {f}:jj id (.agg l) f=f l:=YV rfl rfl
theorem P6 {l} {f}:yk id (.cE l) f=f l:=YV rfl rfl
theorem HY {k n} {f}:dO id (.int k n) f=f [.int k n]:=YV rfl rfl
theorem EH {b} {f}:dO id (.bool b) f=f [.bool b]:=YV rfl rfl
theorem Ib {l n} {f}:dO id (.str l n) f=f [.str l n]:=YV rfl rfl
theorem Ia {b o} {f}:dO id (.ptr b o) f=f [.ptr b o]:=YV rfl rfl
theorem BN {b o l c s} {f}:dO id (.slice b o l c s) f=f [.slice b o l c s]:=YV rfl rfl
theorem EJ {f}:dO id .aw f=f [.aw]:=YV rfl rfl
theorem HZ {b} {f}:dO id (.map b) f=f [.map b]:=YV rfl rfl
theorem EI {n} {l} {f}:dO id (.func n l) f=f [.func n l]:=YV rfl rfl
theorem HX {l} {f}:dO id (.agg l) f=f l:=YV rfl rfl
theorem yO {k n} {f}:dZ id (.int k n) f=f:=YV rfl rfl
theorem Gt {b} {f}:dZ id (.bool b) f=f:=YV rfl rfl
theorem yQ {l n} {f}:dZ id (.str l n) f=f:=YV rfl rfl
theorem J7 {b o} {f}:dZ id (.ptr b o) f=f:=YV rfl rfl
theorem Dr {b o l c s} {f}:dZ id (.slice b o l c s) f=f:=YV rfl rfl
theorem Gv {f}:dZ id .aw f=f:=YV rfl rfl
theorem J6 {b} {f}:dZ id (.map b) f=f:=YV rfl rfl
theorem Gu {n} {l} {f}:dZ id (.func n l) f=f:=YV rfl rfl
theorem J5 {k n} {f}:isKey id (.int k n) f=f:=YV rfl rfl
theorem Km {b o} {f}:gf id (.ptr b o) f=f 11:=YV rfl rfl
theorem GL {f}:gf id .iS f=f 10:=YV rfl rfl
theorem DO {b o l c s} {f}:gf id (.slice b o l c s) f=f 21:=YV rfl rfl
theorem GM {f}:gf id .aw f=f 20:=YV rfl rfl
theorem Kl {b} {f}:gf id (.map b) f=f 31:=YV rfl rfl
theorem GK {f}:gf id .xc f=f 30:=YV rfl rfl
theorem Xw {t f}:EY (.bool true) true t f=t:=YV rfl rfl
theorem Xv {t f}:EY (.bool true) false t f=f:=YV rfl rfl
theorem Xt {t f}:EY (.bool false) true t f=f:=YV rfl rfl
theorem Xs {t f}:EY (.bool false) false t f=t:=YV rfl rfl
end
theorem Tv {s} {e}:aA (.s s) e=aa s e:=YV rfl rfl
theorem Tu {v} {e}:aA (.c v) e=v:=YV rfl rfl
section
variable {fuel id:Nat} {ph:dg} {e:Env} {H:Heap} {kn:KE} {kx:Nat->KE} {a b:aq} {k:Env->Heap->R} {l:List tO} {d:Option Slot} {op:kP} {cls:Nat}
theorem NU:fM .skip fuel ph e H kn kx=kn e H:=YV rfl rfl
theorem IW:fM (.seq a b) fuel ph e H kn kx=fM a fuel ph e H (λe H=>fM b fuel ph e H kn kx) kx:=YV rfl rfl
theorem Sv:fM (.ux l) fuel ph e H kn kx=iQ ph l e H kn:=YV rfl rfl
theorem CY:fM (.rD l) fuel ph e H kn kx=bJ ph l e H kn:=YV rfl rfl
theorem NQ {c}:fM (.cond c a b) fuel ph e H kn kx=eF 0 (aA c e) λq=>if q=true then fM a fuel ph e H kn kx else fM b fuel ph e H kn kx:=by
 show aI c e (λv=>eF 0 v λq=>aE q (fM a fuel ph e H kn kx) (fM b fuel ph e H kn kx))=_
 rw [ai]
 congr 1
 funext q
 exact bF
theorem JV:fM (.block id a) fuel ph e H kn kx=fM a fuel ph e H kn λn e H=>if n=id+1 then kn e H else kx n e H:=by
 show fM a fuel ph e H kn (λn e H=>aE (YL n (WH id)) (kn e H) (kx n e H))=_
 congr 1
 funext n e H
 rw [bF]
 simp
theorem NR:fM (.exit id) fuel ph e H kn kx=kx (id+1) e H:=YV rfl rfl
theorem Sw:fM .ret fuel ph e H kn kx=kx 0 e H:=YV rfl rfl
noncomputable def lr (a:aq) (fuel:Nat) (ph:dg) (kx:Nat->KE) (n:Nat):KE:=Nat.rec (motive:=λ_=>Env->Heap->R) (λ_ _=>no 3) (λ_ ih e H=>fM a fuel ph e H ih kx) n
theorem NT:fM (.loop a) fuel ph e H kn kx=lr a fuel ph kx fuel e H:=YV rfl rfl
theorem ax {n}:lr a fuel ph kx (n+1) e H=fM a fuel ph e H (lr a fuel ph kx n) kx:=YV rfl rfl
theorem Hj {s} {v} {e}:dK (some s) v e=kJ s v e:=YV rfl rfl
theorem Hg {v} {e}:dK none v e=e:=YV rfl rfl
theorem JW:iQ ph [] e H k=k e H:=YV rfl rfl
theorem FY:iQ ph (⟨id,d,none,cls,op⟩:: l) e H k=aN op id ph e H λv H'=>iQ ph l (dK d v e) H' k:=by
 show aN op id ph e H (λv H'=>bX d v e λe'=>iQ ph l e' H' k)=_
 simp only [cw]
theorem FZ {s} {b}:iQ ph (⟨id,d,some (s,b),cls,op⟩:: l) e H k=EY (aa s e) b (aN op id ph e H λv H'=>iQ ph l (dK d v e) H' k) (iQ ph l (dK d (.cE []) e) H k):=by
 show gV s e (λv=>EY v b (aN op id ph e H λv H'=>bX d v e λe'=>iQ ph l e' H' k) (bX d (.cE []) e λe'=>iQ ph l e' H k))=_
 simp only [cw,dX]
noncomputable def Heap.mark (H:Heap):Heap:=.mk H.n H.n H.t
noncomputable def Heap.dW (H:Heap) (w:Nat):Heap:=.mk H.n w H.t
theorem Heap.OB:H.mark.n=H.n:=YV rfl rfl
theorem Heap.ER:H.mark.bC=H.n:=YV rfl rfl
theorem Heap.Dj {b:Nat}:H.mark.get b=H.get b:=YV rfl rfl
theorem Heap.cO:H.mark.wf=H.wf:=YV rfl rfl
theorem Heap.BL {w:Nat}:H.mark.dW w=H.dW w:=YV rfl rfl
theorem Heap.EE {w:Nat} {x:ee}:(H.new x).dW w=(H.dW w).new x:=YV rfl rfl
theorem Heap.EF:H.dW H.bC=H:=by cases H;rfl
theorem FW:bJ ph [] e H k=k e H:=YV rfl rfl
theorem CZ:bJ ph (⟨id,d,none,0,op⟩:: l) e H k=aN op id ph e H λv H'=>bJ ph l (dK d v e) H' k:=by
 show aN op id ph e H (λv H'=>bX d v e λe'=>bJ ph l e' H' k)=_
 simp only [cw]
theorem C0 {s} {b}:bJ ph (⟨id,d,some (s,b),0,op⟩:: l) e H k=EY (aa s e) b (aN op id ph e H λv H'=>bJ ph l (dK d v e) H' k) (bJ ph l (dK d (.cE []) e) H k):=by
 show gV s e (λv=>EY v b (aN op id ph e H λv H'=>bX d v e λe'=>bJ ph l e' H' k) (bX d (.cE []) e λe'=>bJ ph l e' H k))=_
 simp only [cw,dX]
theorem uc:bJ ph (⟨id,d,none,1,op⟩:: l) e H k=aN op id ph e H.mark λv H'=>if H.n<=H'.bC then bJ ph l (dK d v e) (H'.dW H.bC) k else no 0:=by
 cases H with
 | mk n bC t=>
  show aN op id ph e (.mk n n t) (λv H'=>Heap.rec (λn' wlo' t'=>aE (YS n wlo') (bX d v e λe'=>bJ ph l e' (.mk n' bC t') k) (no 0)) H')=_
  congr 1
  funext v H'
  cases H' with
  | mk n' wlo' t'=>
   show aE (YS n wlo') (bX d v e λe'=>bJ ph l e' (.mk n' bC t') k) (no 0)=_
   rw [bF,cw]
   simp only [lC]
   rfl
theorem AM {s} {b}:bJ ph (⟨id,d,some (s,b),1,op⟩:: l) e H k=EY (aa s e) b (aN op id ph e H.mark λv H'=>if H.n<=H'.bC then bJ ph l (dK d v e) (H'.dW H.bC) k else no 0) (bJ ph l (dK d (.cE []) e) H k):=by
 have h1:=uc (id:=id) (ph:=ph) (e:=e) (H:=H) (k:=k) (l:=l) (d:=d) (op:=op)
 have h2:bJ ph (⟨id,d,some (s,b),1,op⟩:: l) e H k=gV s e (λv=>EY v b (bJ ph (⟨id,d,none,1,op⟩:: l) e H k) (bX d (.cE []) e λe'=>bJ ph l e' H k)):=rfl
 rw [h2,dX,cw,h1]
end
end Go.Ev
end
section
namespace Go.Ev
section
variable {id:Nat}
theorem OK {v} {l} {k}:nth id (v :: l) 0 k=k v:=YV rfl rfl
theorem DP {v} {l} {i} {k}:nth id (v :: l) (i+1) k=nth id l i k:=YV rfl rfl
theorem js:∀ {l} {i} {v} {k},l[i]? = some v->nth id l i k=k v
 | [],i,v,k,h=>by simp_all
 | x :: l,0,v,k,h=>by simp at h;subst h;rfl
 | x :: l,i+1,v,k,h=>by
  rw [DP]
  exact js (by simp_all)
theorem gE:∀ {l} {i} {k},i<=l.length->eY id l i k=k (l.drop i)
 | [],0,k,_=>rfl
 | [],i+1,k,h=>by simp_all
 | x :: l,0,k,_=>rfl
 | x :: l,i+1,k,h=>by
  show eY id l i k=_
  rw [gE (by simp_all)]
  rfl
theorem fQ:∀ {l} {i} {k},i<=l.length->takeN id l i k=k (l.take i)
 | [],0,k,_=>rfl
 | [],i+1,k,h=>by simp_all
 | x :: l,0,k,_=>rfl
 | x :: l,i+1,k,h=>by
  show takeN id l i (λr=>k (x :: r))=_
  rw [fQ (by simp_all)]
  rfl
theorem Bk:∀ {m l} {k},m.length<=l.length->over id m l k=k (m ++ l.drop m.length)
 | [],l,k,_=>rfl
 | x :: m,[],k,h=>by simp_all
 | x :: m,y :: l,k,h=>by
  show over id m l (λq=>k (x :: q))=_
  rw [Bk (by simp_all)]
  rfl
theorem rW:∀ {m l} {i} {k},i+m.length<=l.length->setAt id m l i k=k (l.take i ++ (m ++ l.drop (i+m.length)))
 | m,[],0,k,h=>by
  show over id m [] k=_
  rw [Bk (by omega)]
  simp
 | m,[],i+1,k,h=>by simp_all
 | m,y :: l,0,k,h=>by
  show over id m (y :: l) k=_
  rw [Bk (by omega)]
  simp
 | m,y :: l,i+1,k,h=>by
  show setAt id m l i (λq=>k (y :: q))=_
  rw [rW (by grind)]
  grind
theorem KX {x} {l} {i} {k} (h:i<l.length):setAt id [x] l i k=k (l.set i x):=by
 rw [rW (by grind),List.set_eq_take_append_cons_drop,if_pos h]
 rfl
theorem Fq {k}:bq id [] k=k:=YV rfl rfl
theorem kR {v} {l} {k}:bq id (v :: l) k=dZ id v (bq id l k):=YV rfl rfl
end
@[congr] theorem Vi {id} {l m} {i j} {k} (h:l=m) (h':i=j):takeN id l i k=takeN id m j k:=by simp_all
@[congr] theorem Ve {id} {m m' l l'} {i j} {k} (h0:m=m') (h:l=l') (h':i=j):setAt id m l i k=setAt id m' l' j k:=by simp_all
@[congr] theorem Rz {id} {l m} {k} (h:l=m):bq id l k=bq id m k:=by rw [h]
@[congr] theorem Sz {n m} {k} (h:n=m):av n k=av m k:=by rw [h]
noncomputable def KM (id:Nat) (bl:ee) (off:Nat) (k:V->R):R:=Zp id bl (λl=>nth id l off k) (λlen n=>if off<len then k (.int 4 (n >>> (8*off) &&& 255)) else no 0) λl=>nth id l off λv=>dZ id v (k v)
noncomputable def yf (id:Nat) (bl:ee) (off n:Nat) (k:List V->R):R:=Zp id bl (λl=>eY id l off λr=>takeN id r n k) (λlen x=>if off+n<=len then k ((aC n (x >>> (8*off))).map eB) else no 0) λl=>eY id l off λr=>takeN id r n λq=>bq id q (k q)
@[congr] theorem Zw {id} {x y} {i j} {k} (h:x=y) (h':i=j):KM id x i k=KM id y j k:=by simp_all
@[congr] theorem XY {id} {x y} {i j n m} {k} (h:x=y) (h':i=j) (h2:n=m):yf id x i n k=yf id y j m k:=by simp_all
@[congr] theorem Zo {id} {x y} {kc} {kb} (h:x=y):ri id x kc kb=ri id y kc kb:=by rw [h]
@[congr] theorem VA {id} {x y} {k} (h:x=y):rh id x k=rh id y k:=by rw [h]
section
variable {id:Nat} {H:Heap}
theorem ij {l} {kc} {kb}:ri id (.cells l) kc kb=kc l:=YV rfl rfl
theorem JA {a b} {kc} {kb}:ri id (.bytes a b) kc kb=kb a b:=YV rfl rfl
theorem L3 {es} {k}:rh id (.map es) k=k es:=YV rfl rfl
theorem Ot {b off} {k}:mY id H b off k=ri id (H.get b) (λl=>nth id l off k) λlen n=>if off<len then k (.int 4 (n >>> (8*off) &&& 255)) else no 0:=by
 unfold mY
 rw [aV]
 congr 1
 funext len n
 rw [bF]
 simp only [Bf,ay]
 rfl
theorem XX {b off} {k}:Jk id H b off k=KM id (H.get b) off k:=by
 unfold Jk KM
 rw [aV]
 congr 1
 funext len n
 rw [bF]
 simp only [Bf,ay]
 rfl
theorem Bt {b off n} {k}:D6 id H b off n k=yf id (H.get b) off n k:=by
 unfold D6 yf
 rw [aV]
 congr 1
 funext len x
 rw [bF]
 simp only [lC,iG]
 rfl
theorem KO {l} {off} {k}:KM id (.cells l) off k=nth id l off k:=YV rfl rfl
theorem KN {len n off} {k}:KM id (.bytes len n) off k=if off<len then k (.int 4 (n >>> (8*off) &&& 255)) else no 0:=YV rfl rfl
theorem mK {l} {off n} {k}:yf id (.cells l) off n k=eY id l off λr=>takeN id r n k:=YV rfl rfl
theorem zx {l} {off n} {k}:yf id (.view l) off n k=eY id l off λr=>takeN id r n λq=>bq id q (k q):=YV rfl rfl
theorem rO {b off n} {k}:dU id H b off n k=ri id (H.get b) (λl=>eY id l off λr=>takeN id r n k) λlen x=>if off+n<=len then k ((aC n (x >>> (8*off))).map eB) else no 0:=by
 unfold dU
 rw [aV]
 congr 1
 funext len x
 rw [bF]
 simp only [lC,iG]
 rfl
theorem HK {b off} {m} {k}:ez id H b off m k=ri id (H.get b) (λl=>bq id m (setAt id m l off λl'=>cV id H b (.cells l') k))
 λlen x=>ib id m λml mx=>aE (YS (YX off ml) len)
  (av (YX (Yr x (Nat.pow 256 off)) (Yp (YX mx (Yp (Yx x (Yg 8 (YX off ml))) (Yg 8 ml))) (Yg 8 off))) λx'=>cV id H b (.bytes len x') k) (no 0):=by
 rfl
end
noncomputable def aj (ph:dg) (x:V) (args:List V) (H:Heap) (k:K):R:=ph x args H k
@[congr] theorem UQ {ph} {x y} {l m} {H G} {k} (h:x=y) (h':l=m) (h2:H=G):aj ph x l H k=aj ph y m G k:=by simp_all
section
variable {id:Nat} {ph:dg} {e:Env} {H:Heap} {k:K}
theorem XT {x}:aN (.kU x) id ph e H k=k (aA x e) H:=by
 show aI x e (λv=>k v H)=_
 rw [ai]
theorem To {c x y}:aN (.pick c x y) id ph e H k=eF id (aA c e) λb=>if b=true then k (aA x e) H else k (aA y e) H:=by
 show aI c e (λc=>eF id c λb=>aE b (aI x e λv=>k v H) (aI y e λv=>k v H))=_
 simp only [ai,bF]
theorem Tm {z} (h:H.wf):aN (.lD z) id ph e H k=k (.ptr H.n 0) (H.new (.cells z)):=cS (k:=λn H=>k (.ptr n 0) H) h
theorem Tl {n} (h:H.wf):aN (.XG n) id ph e H k=k (.ptr H.n 0) (H.new (.bytes n 0)):=cS (k:=λn H=>k (.ptr n 0) H) h
theorem OV (h:H.wf):aN .mkMap id ph e H k=k (.map H.n) (H.new (.map [])):=cS (k:=λn H=>k (.map n) H) h
theorem XN {x}:aN (.box x) id ph e H k=dO id (aA x e) λl=>bq id l (cA H (.cells l) λn H=>k (.ptr n 0) H):=by
 show aI x e (λv=>dO id v λl=>bq id l (cA H (.cells l) λn H=>k (.ptr n 0) H))=_
 rw [ai]
theorem OT {a}:aN (.dm a) id ph e H k=dQ id (aA a e) λb o=>Jk id H b o λv=>k v H:=by
 show aI a e (λa=>dQ id a λb o=>Jk id H b o λv=>k v H)=_
 rw [ai]
theorem OU {n} {a}:aN (.cM n a) id ph e H k=dQ id (aA a e) λb o=>D6 id H b o n λl=>k (.agg l) H:=by
 show aI a e (λa=>dQ id a λb o=>D6 id H b o n λl=>k (.agg l) H)=_
 rw [ai]
theorem Ks {a x}:aN (.fu a x) id ph e H k=dQ id (aA a e) λb o=>dZ id (aA x e) (ez id H b o [aA x e] λH=>k (.cE []) H):=by
 show aI a e (λa=>dQ id a λb o=>aI x e λx=>dZ id x (ez id H b o [x] λH=>k (.cE []) H))=_
 simp only [ai]
theorem Kt {n} {a x}:aN (.fv n a x) id ph e H k=dQ id (aA a e) λb o=>jj id (aA x e) λl=>if l.length=n then ez id H b o l λH=>k (.cE []) H else no 0:=by
 show aI a e (λa=>dQ id a λb o=>aI x e λx=>jj id x λl=>aE (YL (eR l) n) (ez id H b o l λH=>k (.cE []) H) (no 0))=_
 simp only [ai,bF,oz,iH]
noncomputable def EN (v:V) (k:K) (H:Heap):R:=IS (.c v) 0 (λ_ _ _ _=>0) CX H k
theorem Tn {x}:aN (.OI x) id ph e H k=EN (aA x e) k H:=by
 show IS x id ph e H k=_
 unfold EN IS
 rw [ai,ai]
 rfl
@[congr] theorem Vl {x y} (h:x=y):EN x k H=EN y k H:=by rw [h]
theorem Ld {b o}:EN (.ptr b o) k H=k (.ptr b o) H:=YV rfl rfl
theorem XM {kd ky} {f} {x y}:aN (.bin kd ky f x y) id ph e H k=cC id (aA x e) λk1 a=>cC id (aA y e) λk2 b=>if k1=kd then (if k2=ky then iA id f a b λr=>k (.int kd r) H else no 0) else no 0:=by
 show aI x e (λx=>cC id x λk1 a=>aI y e λy=>cC id y λk2 b=>aE (YL k1 kd) (aE (YL k2 ky) (iA id f a b λr=>k (.int kd r) H) (no 0)) (no 0))=_
 simp only [ai,bF,oz]
theorem XO {kd} {f} {x y}:aN (.cmp kd f x y) id ph e H k=cC id (aA x e) λk1 a=>cC id (aA y e) λk2 b=>if k1=kd then (if k2=kd then (if dN f a b=true then k (.bool true) H else k (.bool false) H) else no 0) else no 0:=by
 show aI x e (λx=>cC id x λk1 a=>aI y e λy=>cC id y λk2 b=>aE (YL k1 kd) (aE (YL k2 kd) (aE (dN f a b) (k (.bool true) H) (k (.bool false) H)) (no 0)) (no 0))=_
 simp only [ai,bF,oz]
theorem XP {kc} {neg} {x y}:aN (.eqv kc neg x y) id ph e H k=gf id (aA x e) λa=>gf id (aA y e) λb=>if a/10=kc then (if b/10=kc then (if a=b then (if a%10=1 then no 0 else k (.bool (!neg)) H) else k (.bool neg) H) else no 0) else no 0:=by
 show aI x e (λx=>gf id x λa=>aI y e λy=>gf id y λb=>aE (YL (WX a 10) kc) (aE (YL (WX b 10) kc) (aE (YL a b) (aE (YL (Yr a 10) 1) (no 0) (aE neg (k (.bool false) H) (k (.bool true) H))) (k (.bool neg) H)) (no 0)) (no 0))=_
 have hn:aE neg (k (.bool false) H) (k (.bool true) H)=k (.bool (!neg)) H:=by cases neg<;>rfl
 simp only [ai,bF (c:=YL _ _),oz,hn]
 rfl
theorem Th {x}:aN (.Oo x) id ph e H k=eF id (aA x e) λb=>k (.bool (!b)) H:=by
 show aI x e (λx=>eF id x λb=>aE b (k (.bool false) H) (k (.bool true) H))=_
 rw [ai]
 congr 1
 funext b
 cases b<;>rfl
theorem Tc {off} {x}:aN (.fW off x) id ph e H k=dQ id (aA x e) λb o=>k (.ptr b (o+off)) H:=by
 show aI x e (λx=>dQ id x λb o=>av (YX o off) λo'=>k (.ptr b o') H)=_
 simp only [ai,ay]
 rfl
theorem Td {off n} {x}:aN (.Sy off n x) id ph e H k=jj id (aA x e) λl=>eY id l off λr=>takeN id r n λq=>k (.agg q) H:=by
 show aI x e (λx=>jj id x λl=>eY id l off λr=>takeN id r n λq=>k (.agg q) H)=_
 rw [ai]
theorem Tb {x} {i}:aN (.NW x i) id ph e H k=yk id (aA x e) λl=>nth id l i λv=>k v H:=by
 show aI x e (λx=>yk id x λl=>nth id l i λv=>k v H)=_
 rw [ai]
theorem XS {f} {caps}:aN (.Zu f caps) id ph e H k=k (.func f (caps.map (aA · e))) H:=by
 show nZ caps e (λl=>k (.func f l) H)=_
 rw [gH]
theorem Ta {f} {args}:aN (.call f args) id ph e H k=aj ph (.func f []) (args.map (aA · e)) H k:=by
 show nZ args e (λl=>ph (.func f []) l H k)=_
 rw [gH]
 rfl
theorem OQ {x} {args}:aN (.IF x args) id ph e H k=aj ph (aA x e) (args.map (aA · e)) H k:=by
 show aI x e (λx=>nZ args e λl=>ph x l H k)=_
 rw [ai,gH]
 rfl
theorem I3 {n}:kH id n H k=if n<9223372036854775808 then k (.int 3 n) H else no 0:=by
 unfold kH
 rw [bF]
 simp
theorem Tg {x}:aN (.abC x) id ph e H k=ec id (aA x e) λn _=>kH id n H k:=by
 show aI x e (λx=>ec id x λn _=>kH id n H k)=_
 rw [ai]
theorem Te {x}:aN (.eR x) id ph e H k=bz id (aA x e) (λ_ _ n _ _=>kH id n H k) (kH id 0 H k):=by
 show aI x e (λx=>bz id x (λ_ _ n _ _=>kH id n H k) (kH id 0 H k))=_
 rw [ai]
theorem Tf {x}:aN (.Ke x) id ph e H k=qg id (aA x e) (λb=>rh id (H.get b) λes=>kH id es.length H k) (kH id 0 H k):=by
 show aI x e (λx=>qg id x (λb=>dC H b λbl=>rh id bl λes=>av (Ke es) λn=>kH id n H k) (kH id 0 H k))=_
 simp only [ai,aV,ay,Ba]
theorem abG {kd o m} {mx} {x y}:aN (.mm kd o m mx x y) id ph e H k=cC id (aA x e) λk1 a=>cC id (aA y e) λk2 b=>if k1=kd then (if k2=kd then k (.int kd (sm mx o m a b)) H else no 0) else no 0:=by
 show aI x e (λx=>cC id x λk1 a=>aI y e λy=>cC id y λk2 b=>aE (YL k1 kd) (aE (YL k2 kd) (DV o m mx a b λr=>k (.int kd r) H) (no 0)) (no 0))=_
 simp only [ai,bF,oz,xh]
end
section
variable {cp:RC->aq} {t:Nat->Option cW} {fuel d:Nat} {H:Heap} {k:K} {args caps:List V} {f F:Nat} {ps:List Slot} {res:List RV} {c:aq}
noncomputable def jy (res:List RV) (k:K) (e:Env) (H:Heap):R:=wH res e H λl=>Ht l λv=>k v H
theorem aB (ht:t F=some (.code ps res c)) (hf:f%2=0) (hF:f/2=F):aj (aQ cp t fuel (d+1)) (.func f caps) args H k=fP ps (args ++ caps) CX λe=>fM c fuel (aQ cp t fuel d) e H (jy res k) λn e H=>if n=0 then jy res k e H else no 6:=by
 show Nat.rec (motive:=λ_=>R) (iZ args caps λargs=>F4 t fuel (aQ cp t fuel d) (WX f 2) args H k) (λ_ _=>iZ caps args λargs=>F4 t fuel (aQ cp t fuel d) (WX f 2) args H k) (Yr f 2)=_
 have h1:Yr f 2=0:=hf
 have h2:WX f 2=F:=hF
 rw [h1,h2]
 rw [eG]
 show av F (λf=>Option.rec (no (100+f)) (λfn=>Sx fn fuel (aQ cp t fuel d) (args ++ caps) H k) (t f))=_
 rw [ay,ht]
 show fP ps (args ++ caps) CX (λe=>fM c fuel (aQ cp t fuel d) e H (jy res k) λn e H=>Nat.rec (jy res k e H) (λ_ _=>no 6) n)=_
 congr 1
 funext e
 congr 1
 funext n e H
 cases n<;>rfl
@[congr] theorem Vf {l m} {e} {k} (h:l=m):fP ps l e k=fP ps m e k:=by rw [h]
@[congr] theorem Xo {x y} {k} (h:x=y):cA H x k=cA H y k:=by rw [h]
@[congr] theorem Xp {id b c} {x y} {k} (h':b=c) (h:x=y):cV id H b x k=cV id H c y k:=by simp_all
@[congr] theorem Vb {id} {l m} {k} (h:l=m):ib id l k=ib id m k:=by rw [h]
theorem KY {e} {k}:fP [] [] e k=k e:=YV rfl rfl
theorem HD {s} {v} {ps} {l} {e} {k}:fP (s :: ps) (v :: l) e k=fP ps l (kJ s v e) k:=by
 show HE s v e (λe'=>fP ps l e' k)=_
 rw [rX]
theorem Ph {e}:jy [] k e H=k (.cE []) H:=YV rfl rfl
theorem Pj {s} {e}:jy [.tmp s] k e H=k (aa s e) H:=by
 show gV s e (λv=>k v H)=_
 rw [dX]
theorem Pk {s s'} {e}:jy [.tmp s,.tmp s'] k e H=k (.cE [aa s e,aa s' e]) H:=by
 show gV s e (λv=>gV s' e λv'=>k (.cE [v,v']) H)=_
 rw [dX,dX]
theorem Hr {s s' s2} {e}:jy [.tmp s,.tmp s',.tmp s2] k e H=k (.cE [aa s e,aa s' e,aa s2 e]) H:=by
 show gV s e (λv=>gV s' e λv'=>gV s2 e λv2=>k (.cE [v,v',v2]) H)=_
 rw [dX,dX,dX]
end
end Go.Ev
end
section
namespace Go.Ev
section
variable {id:Nat} {ph:dg} {e:Env} {H:Heap} {k:K}
theorem idx_eq {i} {len} {f}:idx id i e len f=cC id (aA i e) λkd n=>if 3<=kd then (if n<len then (if n<9223372036854775808 then f n else no 0) else no 0) else no 0:=by
 show aI i e (λv=>cC id v λkd n=>aE (YS 3 kd) (aE (Yv n len) (aE (Yv n 9223372036854775808) (f n) (no 0)) (no 0)) (no 0))=_
 simp only [ai,bF,lC,Bf]
theorem XR {size} {x i}:aN (.A0 size x i) id ph e H k=lF id (aA x e) λb o len _ _=>idx id i e len λn=>k (.ptr b (o+n*size)) H:=by
 show aI x e (λx=>lF id x λb o len _ _=>idx id i e len λn=>av (YX o (Yg n size)) λo'=>k (.ptr b o') H)=_
 simp only [ai,ay]
 rfl
theorem XQ {len size} {x i}:aN (.Xx len size x i) id ph e H k=dQ id (aA x e) λb o=>idx id i e len λn=>k (.ptr b (o+n*size)) H:=by
 show aI x e (λx=>dQ id x λb o=>idx id i e len λn=>av (YX o (Yg n size)) λo'=>k (.ptr b o') H)=_
 simp only [ai,ay]
 rfl
theorem OS {src dst c} {x}:aN (.qb src dst 0 c x) id ph e H k=cC id (aA x e) λk1 a=>if k1=src then k (.int dst (a%c)) H else no 0:=by
 show aI x e (λx=>cC id x λk1 a=>aE (YL k1 src) (av (Yr a c) λr=>k (.int dst r) H) (no 0))=_
 simp only [ai,bF,oz,ay]
 rfl
theorem JX {z} {f}:jU id e [] z f=f z:=YV rfl rfl
theorem F6 {off size} {a} {ps} {z} {f}:jU id e ((off,size,a):: ps) z f=dO id (aA a e) λl=>if l.length=size then setAt id l z off λz'=>jU id e ps z' f else no 0:=by
 show aI a e (λv=>dO id v λl=>aE (YL (eR l) size) (setAt id l z off λz'=>jU id e ps z' f) (no 0))=_
 simp only [ai,bF,oz,iH]
theorem OP {z} {ps}:aN (.build z ps) id ph e H k=jU id e ps z λl=>k (.agg l) H:=YV rfl rfl
theorem Kr {len} {z} {ps}:aN (.jP false len z ps) id ph e H k=jU id e ps z λl=>bq id l (cA H (.cells l) λb H=>k (.slice b 0 len (len+1) 0) H):=YV rfl rfl
theorem GR {len} {z} {ps}:aN (.jP true len z ps) id ph e H k=jU id e ps z λl=>ib id l λln n=>cA H (.bytes ln n) λb H=>k (.slice b 0 len (len+1) 0) H:=YV rfl rfl
theorem Tq {neg} {x y}:aN (.Pv neg x y) id ph e H k=ec id (aA x e) λl1 n1=>ec id (aA y e) λl2 n2=>if l1=l2/\n1=n2 then k (.bool (!neg)) H else k (.bool neg) H:=by
 show aI x e (λx=>ec id x λl1 n1=>aI y e λy=>ec id y λl2 n2=>aE (YL l1 l2) (aE (YL n1 n2) (aE neg (k (.bool false) H) (k (.bool true) H)) (k (.bool neg) H)) (k (.bool neg) H))=_
 have hn:aE neg (k (.bool false) H) (k (.bool true) H)=k (.bool (!neg)) H:=by cases neg<;>rfl
 simp only [ai,bF (c:=YL _ _),oz,hn]
 grind
theorem Tp {x y}:aN (.Ps x y) id ph e H k=ec id (aA x e) λl1 n1=>ec id (aA y e) λl2 n2=>if l1+l2<9223372036854775808 then k (.str (l1+l2) (n1+n2*256 ^ l1)) H else no 0:=by
 show aI x e (λx=>ec id x λl1 n1=>aI y e λy=>ec id y λl2 n2=>av (YX l1 l2) λl=>aE (Yv l 9223372036854775808) (av (YX n1 (Yp n2 (Yg 8 l1))) λn=>k (.str l n) H) (no 0))=_
 simp only [ai,ay,bF,Bf,PE]
 rfl
theorem dV {size b o l c s} {f}:de id size H (.slice b o l c s) f=if l=0 then f 0 [] else D6 id H b o (l*size) λm=>f l m:=by cases l<;>rfl
@[congr] theorem OG {size} {x y} {f} (h:x=y):de id size H x f=de id size H y f:=by rw [h]
theorem mM {a b} {n}:Nat.rec (motive:=λ_=>R) a (λ_ _=>b) n=if n=0 then a else b:=by cases n<;>rfl
theorem dG {size} {s x}:aN (.app false size s x) id ph e H k=de id size H (aA x e) λn new=>bz id (aA s e) (λb o len cp sz=>if n=0 then k (aA s e) H else qZ id size n new b o len cp sz H k)
 (if n=0 then k (aA s e) H else bq id new (if n<=1073741824 then cA H (.cells new) λb' H=>k (.slice b' 0 n 0 size) H else no 0)):=by
 show aI s e (λs=>aI x e λx=>de id size H x λn new=>
  bz id s (λb o len cp sz=>Nat.rec (k s H) (λ_ _=>qZ id size n new b o len cp sz H k) n)
  (Nat.rec (k s H) (λ_ _=>bq id new (aE (YS n 1073741824) (cA H (.cells new) λb' H=>k (.slice b' 0 n 0 size) H) (no 0))) n))=_
 simp only [ai,mM,bF,lC]
theorem pj {size n b len} {new}:qZ id size n new b 0 len 0 size H k=bq id new (if len+n<=1073741824 then ri id (H.get b) (λl=>if l.length=len*size then cV id H b .dead λH=>cA H (.cells (l ++ new)) λb' H=>k (.slice b' 0 (len+n) 0 size) H else no 0) (λ_ _=>no 0) else no 0):=by
 show bq id new (av (YX len n) λneed=>aE (YS need 1073741824)
  (aE (YL size size) (aE (YL 0 0) (dC H b λbl=>ri id bl (λl=>aE (YL (eR l) (Yg len size)) (iZ l new λl'=>cV id H b .dead λH=>cA H (.cells l') λb' H=>k (.slice b' 0 need 0 size) H) (no 0)) (λ_ _=>no 0)) (no 0)) (no 0)) (no 0))=_
 simp only [ay,bF,lC,oz,if_true,aV,iH,eG]
 rfl
theorem jA {size n b o len q sz} {new} (h:q<len+n):qZ id size n new b o len (q+1) sz H k=bq id new (if len+n<=1073741824 then dU id H b o (len*size) λl=>bq id l (cA H (.cells (l ++ new)) λb' H=>k (.slice b' 0 (len+n) 0 size) H) else no 0):=by
 show bq id new (av (YX len n) λneed=>aE (YS need 1073741824)
  (aE (YS need q) (ez id H b (YX o (Yg len size)) new λH=>k (.slice b o need (q+1) sz) H) (dU id H b o (Yg len size) λl=>bq id l (iZ l new λl'=>cA H (.cells l') λb' H=>k (.slice b' 0 need 0 size) H))) (no 0))=_
 have hn:¬ YX len n<=q:=by simp_all
 simp only [ay,bF,lC,eG,if_neg hn]
 rfl
@[congr] theorem Vy {size n n' b o len cp sz} {new new'} (h:n=n') (h':new=new'):qZ id size n new b o len cp sz H k=qZ id size n' new' b o len cp sz H k:=by simp_all
theorem VE {m a b} {f}:iA id (.add m) a b f=f ((a+b)%m):=ay _ _
theorem VM {m a b} {f}:iA id (.sub m) a b f=f ((a+(m-b))%m):=ay _ _
theorem VG {m a b} {f}:iA id (.mul m) a b f=f (a*b%m):=ay _ _
theorem UR {a b}:(dN .eq a b=true)=(a=b):=oz
theorem aaC {a b}:(dN .ne a b=true) = ¬ (a=b):=by
 show (Bool.rec true false (YL a b)=true)=_
 rw [<- oz]
 cases YL a b<;>simp
theorem IH {o m a b}:(dN (.lt o m) a b=true)=((a+o)%m<(b+o)%m):=Bf
theorem IG {o m a b}:(dN (.le o m) a b=true)=((a+o)%m<=(b+o)%m):=lC
theorem MU {o m a b}:(dN (.gt o m) a b=true)=((b+o)%m<(a+o)%m):=Bf
theorem CA {o m a b}:(dN (.ge o m) a b=true)=((b+o)%m<=(a+o)%m):=lC
def nn (a:Nat):Prop:=a<9223372036854775808
theorem jg {a} (h:nn a):(a+9223372036854775808)%18446744073709551616=a+9223372036854775808:=by unfold nn at h;omega
theorem abD {a b} (ha:nn a) (hb:nn b):(dN (.lt 9223372036854775808 18446744073709551616) a b=true)=(a<b):=by
 rw [IH,jg ha,jg hb]
 simp
theorem abB {a b} (ha:nn a) (hb:nn b):(dN (.le 9223372036854775808 18446744073709551616) a b=true)=(a<=b):=by
 rw [IG,jg ha,jg hb]
 simp
theorem aaR {a b} (ha:nn a) (hb:nn b):(dN (.gt 9223372036854775808 18446744073709551616) a b=true)=(b<a):=by
 rw [MU,jg ha,jg hb]
 simp
theorem Dh {a b} (ha:nn a) (hb:nn b):(dN (.ge 9223372036854775808 18446744073709551616) a b=true)=(b<=a):=by
 rw [CA,jg ha,jg hb]
 simp
theorem Y5 {a b} (h:b<=a) (ha:nn a):(a+(18446744073709551616-b))%18446744073709551616=a-b:=by unfold nn at ha;omega
theorem Ou {a b} (ha:nn a) (hb:nn b):sm true 9223372036854775808 18446744073709551616 a b=max a b:=by
 unfold sm
 rw [if_pos rfl,jg ha,jg hb]
 grind
theorem Ox {a b} (ha:nn a) (hb:nn b):sm false 9223372036854775808 18446744073709551616 a b=min a b:=by
 unfold sm
 rw [if_neg (by simp),jg ha,jg hb]
 grind
theorem XI {a} (h:a<9223372036854775808):nn a:=h
@[congr] theorem Xh {g} {a a' b b'} {f} (h:a=a') (h':b=b'):iA id g a b f=iA id g a' b' f:=by simp_all
theorem L7 {d} {f}:gj id none e d f=f d:=YV rfl rfl
theorem L8 {a} {d} {f}:gj id (some a) e d f=cC id (aA a e) λkd n=>if 3<=kd then (if n<9223372036854775808 then f n else no 0) else no 0:=by
 show aI a e (λv=>cC id v λkd n=>aE (YS 3 kd) (aE (Yv n 9223372036854775808) (f n) (no 0)) (no 0))=_
 simp only [ai,bF,lC,Bf]
def Xg (p:Nat × V):V × V:=(.int 3 p.1,p.2)
def eI (D:List (Nat × V)):List (V × V):=D.map Xg
def SN (D:List (Nat × V)) (a:Nat):Option V:=(D.find? λp=>p.1 == a).map (·.2)
def BW:List (Nat × V)->Nat->V->List (Nat × V)
 | [],a,v=>[(a,v)]
 | p :: D,a,v=>if p.1=a then (p.1,v):: D else p :: BW D a v
def zj (o:Option V) (f:V->R) (z:R):R:=match o with
 | some v=>f v
 | none=>z
@[congr] theorem U9 {o o'} {f} {z} (h:o=o'):zj o f z=zj o' f z:=by rw [h]
theorem GY {v} {f} {z}:zj (some v) f z=f v:=YV rfl rfl
theorem GX {f} {z}:zj none f z=z:=YV rfl rfl
theorem yV:∀ {D} {a} {f} {z},uj id false (eI D) (.int 3 a) f z=zj (SN D a) f z
 | [],a,f,z=>rfl
 | (b,v):: D,a,f,z=>by
  show aE (YL a b) (f v) (uj id false (eI D) (.int 3 a) f z)=_
  rw [bF,yV]
  by_cases h:a=b
  .subst h
   simp [SN,zj]
  .have hb:(b == a)=false:=by simp;omega
   simp [SN,h,hb]
theorem Ey:∀ {D} {a} {y} {f},Ex id false (eI D) (.int 3 a) y f=f (eI (BW D a y))
 | [],a,y,f=>rfl
 | (b,v):: D,a,y,f=>by
  show aE (YL a b) (f ((.int 3 b,y):: eI D)) (Ex id false (eI D) (.int 3 a) y λr=>f ((.int 3 b,v):: r))=_
  rw [bF,Ey]
  by_cases h:a=b
  .subst h
   simp [BW,eI,Xg]
  .have hb:¬ b=a:=λh'=>h h'.symm
   simp [BW,eI,Xg,h,hb]
theorem Ti {zero} {ok} {m x} {ks}:aN (.look ks zero ok m x) id ph e H k=qg id (aA m e) (λb=>rh id (H.get b) λes=>uj id ks es (aA x e) (λv=>if ok=true then k (.cE [v,.bool true]) H else k v H) (if ok=true then k (.cE [zero,.bool false]) H else k zero H)) (if ok=true then k (.cE [zero,.bool false]) H else k zero H):=by
 show aI m e (λm=>aI x e λx=>qg id m (λb=>dC H b λbl=>rh id bl λes=>uj id ks es x (λv=>aE ok (k (.cE [v,.bool true]) H) (k v H)) (aE ok (k (.cE [zero,.bool false]) H) (k zero H))) (aE ok (k (.cE [zero,.bool false]) H) (k zero H)))=_
 simp only [ai,aV,bF]
theorem Tj {ks} {m x y}:aN (.XF ks m x y) id ph e H k=EL id (aA m e) λb=>rh id (H.get b) λes=>isKey id (aA x e) (Ex id ks es (aA x e) (aA y e) λes'=>cV id H b (.map es') λH=>k (.cE []) H):=by
 show aI m e (λm=>aI x e λx=>aI y e λy=>EL id m λb=>dC H b λbl=>rh id bl λes=>isKey id x (Ex id ks es x y λes'=>cV id H b (.map es') λH=>k (.cE []) H))=_
 simp only [ai,aV]
@[congr] theorem U5 {ks} {es es'} {x x'} {f} {z} (h:es=es') (h':x=x'):uj id ks es x f z=uj id ks es' x' f z:=by simp_all
@[congr] theorem X5 {ks} {es es'} {x x' y y'} {f} (h:es=es') (h':x=x') (h2:y=y'):Ex id ks es x y f=Ex id ks es' x' y' f:=by simp_all
end
end Go.Ev
end
section
namespace Go.Ev
section
variable {id:Nat} {ph:dg} {e:Env} {H:Heap} {k:K}
theorem Kw {f}:ib id [] f=f 0 0:=YV rfl rfl
theorem Ha {x} {l} {f}:ib id (.int 4 x :: l) f=ib id l λlen n=>f (len+1) (x+256*n):=by
 show aE (YL 4 4) (ib id l λlen n=>av (YX x (Yg 256 n)) λn'=>av (WH len) λlen'=>f len' n') (no 0)=_
 simp only [ay]
 rfl
theorem Oq {b off n} {f}:lX id H b off n f=ri id (H.get b) (λl=>eY id l off λr=>takeN id r n λq=>ib id q λ_ x=>f x) λlen x=>if off+n<=len then f ((x >>> (8*off))%256 ^ n) else no 0:=by
 unfold lX
 rw [aV]
 congr 1
 funext len x
 rw [bF]
 simp only [lC,ay]
 rfl
theorem DS {z} {l c}:aN (.mkSlice true z l c) id ph e H k=cC id (aA l e) λkl l=>cC id (aA c e) λkc c=>if 3<=kl then (if 3<=kc then (if l<=c then (if c<=16777216 then cA H (.bytes c 0) λb H=>k (.slice b 0 l (c+1) 0) H else no 0) else no 0) else no 0) else no 0:=by
 show aI l e (λl=>cC id l λkl l=>aI c e λc=>cC id c λkc c=>aE (YS 3 kl) (aE (YS 3 kc) (aE (YS l c) (aE (YS c 16777216)
  (cA H (.bytes c 0) λb H=>av (WH c) λc1=>k (.slice b 0 l c1 0) H) (no 0)) (no 0)) (no 0)) (no 0))=_
 simp only [ai,bF,lC,ay]
theorem GS {x}:aN (.IJ x) id ph e H k=bz id (aA x e) (λb o l _ _=>lX id H b o l λn=>k (.str l n) H) (k (.str 0 0) H):=by
 show aI x e (λx=>bz id x (λb o l _ _=>lX id H b o l λn=>k (.str l n) H) (k (.str 0 0) H))=_
 rw [ai]
theorem GU {x}:aN (.IK x) id ph e H k=ec id (aA x e) λl n=>if l<=16777216 then cA H (.bytes l n) λb H=>k (.slice b 0 l 0 1) H else no 0:=by
 show aI x e (λx=>ec id x λl n=>aE (YS l 16777216) (cA H (.bytes l n) λb H=>k (.slice b 0 l 0 1) H) (no 0))=_
 simp only [ai,bF,lC]
theorem Tr {size} {x} {lo hi}:aN (.slV size x lo hi none) id ph e H k=bz id (aA x e) (λb o len cp sz=>gj id lo e 0 λl=>gj id hi e len λh=>if l<=h then
 (if cp=0 then (if h<=len then (if sz=size then k (.slice b (o+l*size) (h-l) 0 sz) H else no 0) else no 0)
  else (if h<=cp-1 then (if cp-1=l then k (.slice b o (h-l) 1 0) H else k (.slice b (o+l*size) (h-l) (cp-1-l+1) 0) H) else no 0)) else no 0)
 (gj id lo e 0 λl=>gj id hi e 0 λh=>if l=0 then (if h=0 then k .aw H else no 0) else no 0):=by
 show aI x e (λx=>bz id x (λb o len cp sz=>
  gj id lo e 0 λl=>gj id hi e len λh=>aE (YS l h) (av (Wx h l) λd=>
   (Nat.rec
    (aE (YS h len) (aE (YL sz size) (av (YX o (Yg l size)) λo'=>k (.slice b o' d 0 sz) H) (no 0)) (no 0))
    (λq _=>aE (YS h q) (aE (YL q l) (k (.slice b o d 1 0) H) (av (YX o (Yg l size)) λo'=>av (WH (Wx q l)) λc'=>k (.slice b o' d c' 0) H)) (no 0)) cp)) (no 0))
  (gj id lo e 0 λl=>gj id hi e 0 λh=>aE (YL l 0) (aE (YL h 0) (aE (YL 0 0) (k .aw H) (no 0)) (no 0)) (no 0)))=_
 simp only [ai,ay,bF,lC,oz,if_true]
 congr 1
 funext b o len cp sz
 cases cp with
 | zero=>rfl
 | succ q=>rfl
theorem Ts {size} {x m} {lo hi}:aN (.slV size x lo hi (some m)) id ph e H k=bz id (aA x e) (λb o len cp sz=>gj id lo e 0 λl=>gj id hi e len λh=>if l<=h then
 (gj id (some m) e 0 λm=>if h<=m then (if m<=(if cp=0 then len else cp-1) then (if m=l then k (.slice b o (h-l) 1 0) H else k (.slice b (o+l*size) (h-l) (m-l+1) 0) H) else no 0) else no 0) else no 0)
 (gj id lo e 0 λl=>gj id hi e 0 λh=>gj id (some m) e 0 λm=>if l=0 then (if h=0 then (if m=0 then k .aw H else no 0) else no 0) else no 0):=by
 show aI x e (λx=>bz id x (λb o len cp sz=>
  gj id lo e 0 λl=>gj id hi e len λh=>aE (YS l h) (av (Wx h l) λd=>
   gj id (some m) e 0 λm=>aE (YS h m) (aE (YS m (Nat.rec len (λq _=>q) cp)) (aE (YL m l) (k (.slice b o d 1 0) H) (av (YX o (Yg l size)) λo'=>av (WH (Wx m l)) λc'=>k (.slice b o' d c' 0) H)) (no 0)) (no 0)) (no 0))
  (gj id lo e 0 λl=>gj id hi e 0 λh=>gj id (some m) e 0 λm=>aE (YL l 0) (aE (YL h 0) (aE (YL m 0) (k .aw H) (no 0)) (no 0)) (no 0)))=_
 have hc:∀ (cp len),(Nat.rec len (λq _=>q) cp:Nat)=if cp=0 then len else cp-1:=λcp len=>by cases cp<;>rfl
 simp only [ai,ay,bF,lC,oz,hc]
 rfl
end
section
variable {cp:RC->aq} {t:Nat->Option cW} {fuel d:Nat} {H:Heap} {k:K} {args caps:List V} {f F:Nat} {g:List V->Heap->K->R}
theorem nT (ht:t F=some (.nat g)) (hf:f%2=0) (hF:f/2=F):aj (aQ cp t fuel (d+1)) (.func f caps) args H k=g (args ++ caps) H k:=by
 show Nat.rec (motive:=λ_=>R) (iZ args caps λargs=>F4 t fuel (aQ cp t fuel d) (WX f 2) args H k) (λ_ _=>iZ caps args λargs=>F4 t fuel (aQ cp t fuel d) (WX f 2) args H k) (Yr f 2)=_
 have h1:Yr f 2=0:=hf
 have h2:WX f 2=F:=hF
 rw [h1,h2]
 rw [eG]
 show av F (λf=>Option.rec (no (100+f)) (λfn=>Sx fn fuel (aQ cp t fuel d) (args ++ caps) H k) (t f))=_
 rw [ay,ht]
 rfl
end
end Go.Ev
end
section
namespace Go.Ev
def Hl (x off ml mx:Nat):Nat:=x%256 ^ off+(mx+(x >>> (8*(off+ml)))*256 ^ ml)*256 ^ off
section
variable {id:Nat} {ph:dg} {e:Env} {H:Heap} {k:K}
theorem PJ {b off} {m} {k}:ez id H b off m k=ri id (H.get b) (λl=>bq id m (setAt id m l off λl'=>cV id H b (.cells l') k))
 λlen x=>ib id m λml mx=>if off+ml<=len then cV id H b (.bytes len (Hl x off ml mx)) k else no 0:=by
 rw [HK]
 congr 1
 funext len x
 congr 1
 funext ml mx
 rw [bF]
 simp only [lC,ay]
 have h:(YX (Yr x (Nat.pow 256 off)) (Yp (YX mx (Yp (Yx x (Yg 8 (YX off ml))) (Yg 8 ml))) (Yg 8 off)):Nat)=Hl x off ml mx:=by
  rw [PE,PE]
  rfl
 simp_all
theorem XU {n size} {x} {lo hi mx}:aN (.slA n size x lo hi mx) id ph e H k=dQ id (aA x e) λb o=>gj id mx e n λm=>gj id hi e n λh=>gj id lo e 0 λl=>if l<=h then (if h<=m then (if m<=n then (if m=l then k (.slice b o (h-l) 1 0) H else k (.slice b (o+l*size) (h-l) (m-l+1) 0) H) else no 0) else no 0) else no 0:=by
 show aI x e (λx=>dQ id x λb o=>gj id mx e n λm=>gj id hi e n λh=>gj id lo e 0 λl=>aE (YS l h) (aE (YS h m) (aE (YS m n) (av (Wx h l) λd=>aE (YL m l) (k (.slice b o d 1 0) H) (av (YX o (Yg l size)) λo'=>av (WH (Wx m l)) λc'=>k (.slice b o' d c' 0) H)) (no 0)) (no 0)) (no 0))=_
 simp only [ai,ay,bF,lC,oz]
 rfl
theorem VK {half bits a b} {f}:iA id (.shr half bits) a b f=if a<half then (if b<=bits then f (a >>> b) else (if b<9223372036854775808 then f 0 else no 0)) else no 0:=by
 show aE (Yv a half) (aE (YS b bits) (av (Yx a b) f) (aE (Yv b 9223372036854775808) (f 0) (no 0))) (no 0)=_
 simp only [ay,bF,lC,Bf]
 rfl
theorem VH {m bits a b} {f}:iA id (.shl m bits) a b f=if b<=bits then f ((a <<< b)%m) else (if b<9223372036854775808 then f 0 else no 0):=by
 show aE (YS b bits) (av (Yr (Yp a b) m) f) (aE (Yv b 9223372036854775808) (f 0) (no 0))=_
 simp only [ay,bF,lC,Bf]
 rfl
theorem VF {a b} {f}:iA id .bor a b f=f (a ||| b):=ay _ _
end
def tv (l:List UInt8):V:=.str l.length (enc l)
end Go.Ev
end
section
namespace Go.Ev
def qE:aq->Option (RC × RC)
 | .seq a b=>match qE a with
  | some r=>some r
  | none=>qE b
 | .cond _ a b=>match qE a with
  | some r=>some r
  | none=>qE b
 | .block _ a=>qE a
 | .loop a=>qE a
 | .ko _ _ a b=>some (a,b)
 | .Br _ _ a b=>some (a,b)
 | _=>none
def XV (o:Option cW):RC × RC:=match o with
 | some (.code _ _ c)=>(qE c).getD (⟨0,0,.ret⟩,⟨0,0,.ret⟩)
 | _=>(⟨0,0,.ret⟩,⟨0,0,.ret⟩)
section
variable {id:Nat} {ph:dg} {e:Env} {H:Heap} {k:K} {fuel:Nat} {kn:KE} {kx:Nat->KE}
theorem FV {g} {ps} {asL bo} {f} {caps} (hw:H.wf) (hg:aA g e = .func f caps) (hf:f%2=0) {G} {v}
 (hcall:∀ k:K,aj ph (.func f caps) [.su (H.n+1)] ((H.new .mark).new (.loop 0 0 e ps asL bo)) k=k v G) {e'} {ps'} {as' bo'} (hG:G.get (H.n+1) = .loop 0 0 e' ps' as' bo') (hGw:G.wf) (hGn:H.n+1<G.n):
 fM (.ko g ps asL bo) fuel ph e H kn kx=kn e (G.put (H.n+1) (.loop 3 0 e' ps' as' bo')):=by
 show aI g e (λg=>xK 0 g λf caps=>Nat.rec (cA H .mark λ_ H=>cA H (.loop 0 0 e ps asL bo) λb H=>ph (.func f caps) [.su b] H λ_ H=>
  dC H b λbl=>eK bl λst j e' ps' as' bo'=>Nat.rec (cV 0 H b (.loop 3 j e' ps' as' bo') λH=>Nat.rec (kn e H) (λm _=>kx m e H) j) (λs _=>Nat.rec (no 10) (λ_ _=>cV 0 H b (.loop 3 j e' ps' as' bo') λH=>Nat.rec (kn e H) (λm _=>kx m e H) j) s) st) (λ_ _=>no 14) (Yr f 2))=_
 rw [ai,hg]
 show Nat.rec (motive:=λ_=>R) _ _ (Yr f 2)=_
 have hf':Yr f 2=0:=hf
 rw [hf']
 rw [cS hw,cS (by rw [Heap.bg];omega),Heap.aO]
 refine (hcall _).trans ?_
 rw [aV,hG]
 show cV 0 G (H.n+1) (.loop 3 0 e' ps' as' bo') (λH=>kn e H)=_
 rw [fi hGw hGn]
theorem po {cp} {t} {d b} {args}:aj (aQ cp t fuel (d+1)) (.su b) args H k=UW cp fuel (aQ cp t fuel d) b args H k:=YV rfl rfl
theorem jS {ops}:fM (.Xm ops) fuel ph e H kn kx=bD ph H.n ops e H [] [] kn:=by rfl
variable {n0:Nat} {l:List uG} {fl st:List (Nat × Nat)} {dd:Option Slot} {i bf:Nat} {ad:Arg} {op:kP}
theorem fV:bD ph n0 [] e H fl st kn=kn e H:=YV rfl rfl
theorem cJ:bD ph n0 (⟨id,dd,none,0,i,bf,ad,op⟩:: l) e H fl st kn=aN op id ph e H λv H'=>bD ph n0 l (dK dd v e) H' fl st kn:=by
 show aN op id ph e H (λv H'=>bX dd v e λe'=>bD ph n0 l e' H' fl st kn)=_
 simp only [cw]
theorem wB:bD ph n0 (⟨id,dd,none,1,i,bf,ad,op⟩:: l) e H fl st kn=aN op id ph e H.mark λv H'=>if H.n<=H'.bC then bD ph n0 l (dK dd v e) (H'.dW H.bC) fl st kn else no 0:=by
 cases H with
 | mk n bC t=>
  show aN op id ph e (.mk n n t) (λv H'=>Heap.rec (λn' wlo' t'=>aE (YS n wlo') (bX dd v e λe'=>bD ph n0 l e' (.mk n' bC t') fl st kn) (no 0)) H')=aN op id ph (e) (.mk n n t) _
  congr 1
  funext v H'
  cases H' with
  | mk n' wlo' t'=>
   show aE (YS n wlo') (bX dd v e λe'=>bD ph n0 l e' (.mk n' bC t') fl st kn) (no 0)=_
   rw [bF,cw]
   simp only [lC]
   rfl
theorem cG {id bf b} {k}:dw id bf b [] k=k:=YV rfl rfl
theorem dF {id bf b i' b'} {l} {k}:dw id bf b ((i',b'):: l) k=if Nat.testBit bf i'=true then dw id bf b l k else if b=b' then no 0 else dw id bf b l k:=by
 show aE (Nat.testBit bf i') (dw id bf b l k) (aE (YL b b') (no 0) (dw id bf b l k))=_
 rw [bF,bF]
 simp
theorem gG {b o} (hb:aA ad e = .ptr b o) (hlt:b<n0) {v} (hop:∀ k:K,aN op id ph e H k=k v H) (hst:∀ k:R,dw id bf b st k=k):
 bD ph n0 (⟨id,dd,none,2,i,bf,ad,op⟩:: l) e H fl st kn=bD ph n0 l (dK dd v e) H ((i,b):: fl) st kn:=by
 show aI ad e (λa=>mS id a λob=>Option.rec (no 0) (λb=>aE (Yv b n0) (dw id bf b st (aN op id ph e H λv H'=>bX dd v e λe'=>bD ph n0 l e' H ((i,b):: fl) st kn)) (no 0)) ob)=_
 rw [ai,hb]
 show aE (Yv b n0) (dw id bf b st (aN op id ph e H λv H'=>bX dd v e λe'=>bD ph n0 l e' H ((i,b):: fl) st kn)) (no 0)=_
 rw [bF,if_pos (by simp_all),hst,hop,cw]
theorem lU {b o} (hb:aA ad e = .ptr b o) {v} {H'} (hop:∀ k:K,aN op id ph e H k=k v H') (hfl:∀ k:R,dw id bf b fl k=k):
 bD ph n0 (⟨id,dd,none,3,i,bf,ad,op⟩:: l) e H fl st kn=bD ph n0 l (dK dd v e) H' fl ((i,b):: st) kn:=by
 show aI ad e (λa=>mS id a λob=>Option.rec (aN op id ph e H λv H'=>bX dd v e λe'=>bD ph n0 l e' H' fl st kn)
  (λb=>dw id bf b fl (aN op id ph e H λv H'=>bX dd v e λe'=>bD ph n0 l e' H' fl ((i,b):: st) kn)) ob)=_
 rw [ai,hb]
 show dw id bf b fl (aN op id ph e H λv H'=>bX dd v e λe'=>bD ph n0 l e' H' fl ((i,b):: st) kn)=_
 rw [hfl,hop,cw]
end
section
variable {ph:dg} {e:Env} {H:Heap} {kn:KE} {kx:Nat->KE} {n0 id:Nat} {l:List uG} {hs:List Heap} {bs:List Nat} {dd:Option Slot} {i bf fuel:Nat} {ad:Arg} {op:kP}
theorem aaM {ops}:fM (.Zk ops) fuel ph e H kn kx=eZ ph H.n ops e H [] [] kn:=by rfl
end
end Go.Ev
end
section
namespace Go.Ev
attribute [go_sem ↓] HD KY NU IW Sv CY NQ NT JV NR Sw FY FZ JW CZ C0 FW uc AM XT To Tm Tl OV XN OT OU Ks Kt Tn XM XO XP Th Tc Td Tb XS Ta OQ Tg Te Tf abG XR XQ OS OP Kr GR Tq Tp Ti Tj JX F6 I3 idx_eq Kw Ha Oq DS GS GU Tr Ts L7 L8 VE VM VG Ot rO XX Bt KO KN mK zx PJ XU VK VH VF pj jA cS fi xM HV P5 P2 BO cZ fH P0 Lc PZ P6 Ld HY EH Ib Ia BN EJ HZ EI HX yO Gt yQ J7 Dr Gv J6 Gu J5 Km GL DO GM Kl GK Xw Xv Xt Xs ij JA L3 kR Fq OK DP gE fQ KX rW dV yV Ey GY GX Ph Pj Pk Hr
attribute [go_sem] List.append_nil List.nil_append List.cons_append UR aaC abD abB aaR Dh Y5 Ou Ox XI Hj Hg Tv Tu eO Slot.mk.injEq and_true and_false true_and false_and not_true_eq_false not_false_eq_true if_true if_false Nat.zero_shiftRight Nat.zero_mod Nat.add_zero Nat.zero_add Nat.zero_mul Nat.mul_one Nat.one_mul Yk YA Bool.not_true Bool.not_false Bool.false_eq_true Bool.true_eq_false eq_self List.length_cons List.length_nil List.length_map List.length_append List.set_cons_succ List.set_cons_zero List.map_cons List.map_nil List.take_succ_cons List.take_zero List.take_nil List.drop_succ_cons List.drop_zero List.drop_nil Heap.aF Heap.aH Heap.bI Heap.bg Heap.aT Heap.aO Heap.iI Heap.OB Heap.ER Heap.Dj Heap.cO Heap.BL Heap.EE Heap.EF Heap.BT
attribute [go_sem] reduceCtorEq ZA ZB ZC ZD ZF ZG ZH
attribute [go_sem ↓] reduceIte
end Go.Ev
end
section
namespace Go.Ev
open Go.RowKit
open Classical
noncomputable def nu (N:Nat) (v:Value):V:=match mA v with
 | some u=>u
 | none=>match v with
  | .slice (some a) l cap=>if l<=cap then (if a.spot=none/\a.block<N then .slice a.block a.off l (cap+1) 0 else if cap=0 then .slice N a.off 0 1 0 else .cE []) else .cE []
  | .pointer (some a)=>if a.spot=none/\a.block<N then .ptr a.block a.off else .cE []
  | .map (some b)=>if b<N then .map b else .cE []
  | _=>.cE []
noncomputable def rS (N:Nat) (c:Array Value) (fr:Nat × Nat):List V:=c.toList.mapIdx λi v=>if fr.1<=i/\i<fr.2 then .cE [] else nu N v
noncomputable def Lo (w:World) (b:Nat):ee:=if GB b then .dead else match w.heap[b]? with
 | some (.cells c _ fr)=>.view (rS w.heap.size c fr)
 | _=>.dead
noncomputable def nN (w:World):Nat->Heap
 | 0=>H0
 | n+1=>(nN w n).new (Lo w n)
noncomputable def dz (w:World):Heap:=(nN w (w.heap.size+1)).mark
noncomputable def xr (w:World) (b:Nat):Option Nat:=if (Lo w b).alive then some b else none
theorem lJ (w):∀ n,(nN w n).wf/\(nN w n).n=n/\∀ b,(nN w n).get b=if b<n then Lo w b else .dead
 | 0=>⟨λb h=>absurd h (Nat.not_lt_zero b),rfl,λb=>by rfl⟩
 | n+1=>by
  obtain ⟨h1,h2,h3⟩:=lJ w n
  refine ⟨by unfold nN;rw [Heap.bg];omega,by unfold nN;rw [Heap.aO,h2],λb=>?_⟩
  unfold nN
  rw [Heap.aH h1,h2,h3]
  grind
theorem LZ (w):(dz w).wf:=by unfold dz;rw [Heap.cO];exact (lJ w _).1
theorem kQ (w):(dz w).n=w.heap.size+1:=by unfold dz;rw [Heap.OB];exact (lJ w _).2.1
theorem yp (w):(dz w).bC=w.heap.size+1:=by unfold dz;rw [Heap.ER];exact (lJ w _).2.1
theorem AP {w} {b} (h:w.heap.size<=b):Lo w b = .dead:=by
 unfold Lo
 simp_all
theorem jz (w) (b):(dz w).get b=Lo w b:=by
 unfold dz
 rw [Heap.Dj,(lJ w _).2.2]
 split
 .rfl
 .rw [AP (by omega)]
theorem te {w} {b} (h:(Lo w b).alive):(∃ c e fr,w.heap[b]? = some (.cells c e fr)/\Lo w b = .view (rS w.heap.size c fr))/\¬ GB b:=by
 unfold Lo at h ⊢
 by_cases hg:GB b
 .rw [if_pos hg]at h;exact h.elim
 .rw [if_neg hg]at h ⊢
  split at h
  .grind
  .exact h.elim
theorem xN (w) (v) (h:(nu w.heap.size v).one=true):VR (mu (xr w) (dz w) w) (nu w.heap.size v) v:=by
 have hb:∀ b,b<w.heap.size->(mu (xr w) (dz w) w).b b b:=λb hb=>⟨by rw [kQ];omega,λha=>by rw [jz]at ha;exact if_pos ha⟩
 unfold nu at h ⊢
 cases hc:mA v with
 | some u=>exact (qx hc).1
 | none=>
  rw [hc]at h
  simp only at h ⊢
  split at h
  .rename_i a l cap
   split at h
   .rename_i hl
    rw [if_pos hl]
    split at h
    .rename_i hs
     rw [if_pos hs]
     obtain ⟨b,off,spot⟩:=a
     obtain ⟨rfl,hbs⟩:=hs
     exact ⟨b,cap,off,none,rfl,hb b hbs,hl,⟨λq hq=>by omega,λh=>by omega⟩,Or.inl ⟨rfl,rfl⟩⟩
    .rename_i hs
     rw [if_neg hs]
     split at h
     .rename_i h0
      subst h0
      obtain rfl:l=0:=by omega
      exact ⟨a.block,0,a.off,a.spot,rfl,⟨by rw [kQ];omega,λha=>by rw [jz,AP (YA _)]at ha;exact ha.elim⟩,YA _,⟨λq hq=>by omega,λh=>by omega⟩,YE rfl⟩
     .cases h
   .cases h
  .rename_i a
   split at h
   .rename_i hs
    rw [if_pos hs]
    obtain ⟨b,off,spot⟩:=a
    simp only [VR]
    simp_all
   .cases h
  .split at h
   .rename_i hs
    rw [if_pos hs]
    simp only [VR]
    simp_all
   .cases h
  .cases h
theorem Eh {N} {c} {fr} {i} {cv} (h:c[i]? = some cv) (hf:¬ (fr.1<=i/\i<fr.2)):(rS N c fr)[i]? = some (nu N cv):=by
 unfold rS
 grind
section
variable {P:Program} {base:Nat} {w0 w w':World} {rho:Nat->Option Nat} {H H':Heap}
theorem PR.late (h:PR P base w0 rho H w) (hbl:Below w.heap.size w w') {bl:ee} {o:Obj} {g:Nat} (hn:H'.n=H.n+1) (hw:H'.bC=H.bC) (hg:H'.get H.n=bl) (ho:∀ j,j≠H.n->H'.get j=H.get j)
 (ha:bl.alive) (hgs:w.heap.size<=g) (hnew:w'.heap[g]? = some o) (hb:BR P (mu rho H w) bl o):
 PR P base w0 (λb=>if b=H.n then some g else rho b) H' w'/\Ext rho H w (λb=>if b=H.n then some g else rho b) H' w':=by
 have hlt:=h.lt
 have hgl:g<w'.heap.size:=(YK.1 hnew).1
 have hE:Ext rho H w (λb=>if b=H.n then some g else rho b) H' w':=by
  refine ⟨by omega,by omega,hbl.size,λb hb _=>⟨ho b (by omega),by simp [QW hb]⟩,λb c hb hr=>?_,λb c hr _=>?_,λb hb hal=>?_,λb c hb hr=>?_,λc hc _=>hbl.block c hc,λb hm=>?_,λc cs e fr hc=>⟨cs,e,fr,(hbl.block c (YK.1 hc).1).trans hc,rfl⟩,λc r hc=>⟨r,(hbl.block c (YK.1 hc).1).trans hc⟩⟩
  .simpa [QW hb] using hr
  .have:=hlt b c hr;simp [QW this,hr]
  .rwa [ho b (by omega)]at hal
  .by_cases hb':b=H.n
   .simp [hb']at hr;omega
   .simp [hb']at hr;have:=hlt b c hr;omega
  .have hb':b≠H.n:=λe=>by subst e;rw [h.out H.n (YA _)]at hm;cases hm
   exact ⟨(ho b hb').trans hm,by simp [hb'],λc hc=>hbl.block c (h.jl b c hc).2.2.1⟩
 refine ⟨⟨h.below.trans (hbl.mono h.cN),Ym h.cN hbl.size,by have:=h.wn;omega,λb c hr=>?_,λb b' c hr hr'=>?_,λb c hr=>?_,λb hb'=>?_,h.gl.step hE⟩,hE⟩
 .by_cases hb':b=H.n
  .subst hb'
   simp at hr
   subst hr
   exact ⟨by omega,Ym h.cN hgs,hgl,by rw [hg];exact ha⟩
  .simp [hb']at hr
   obtain ⟨h1,h2,h3,h4⟩:=h.jl b c hr
   exact ⟨by omega,h2,Nat.lt_of_lt_of_le h3 hbl.size,by rw [ho b hb'];exact h4⟩
 .by_cases h1:b=H.n<;>by_cases h2:b'=H.n<;>simp [h1,h2]at hr hr'
  .omega
  .have:=(h.jl b' c hr').2.2.1;omega
  .have:=(h.jl b c hr).2.2.1;omega
  .exact h.inj b b' c hr hr'
 .by_cases hb':b=H.n
  .subst hb'
   simp at hr
   subst hr
   exact ⟨o,hnew,by rw [hg];exact hb.mono hE.mu⟩
  .simp [hb']at hr
   obtain ⟨o',h1,h2⟩:=h.cQ b c hr
   refine ⟨o',(hbl.block c (h.jl b c hr).2.2.1).trans h1,?_⟩
   rw [ho b hb']
   exact h2.mono hE.mu
 .rw [ho b (by omega)]
  exact h.out b (by omega)
end
section
variable {P:Program}
theorem PR.dz (w:World) (hg:GQ w/\∀ c,GB c->c<w.heap.size:=by exact Gno):PR P 0 w (xr w) (Ev.dz w) w:=by
 have hr:∀ b c,xr w b=some c->b=c/\(Lo w b).alive:=λb c h=>by
  unfold xr at h
  split at h
  .rename_i ha;cases h;exact ⟨rfl,ha⟩
  .cases h
 refine ⟨Below.refl _ _,Yk _,by rw [yp,kQ];exact YA _,λb c h=>?_,λb b' c h h'=>(hr _ _ h).1.trans (hr _ _ h').1.symm,λb c h=>?_,λb hb=>?_,hg.1,hg.2,λb c h=>?_⟩
 .obtain ⟨rfl,ha⟩:=hr _ _ h
  obtain ⟨⟨cs,e,fr,h1,h2⟩,_⟩:=te ha
  have hlt:=(YK.1 h1).1
  exact ⟨by rw [kQ];omega,Yk _,hlt,by rw [jz];exact ha⟩
 .obtain ⟨rfl,ha⟩:=hr _ _ h
  obtain ⟨⟨cs,e,fr,h1,h2⟩,_⟩:=te ha
  refine ⟨_,h1,?_⟩
  rw [jz,h2]
  refine ⟨cs,e,fr,rfl,λi v hi ho=>?_⟩
  unfold rS at hi
  rw [List.getElem?_mapIdx,Array.getElem?_toList]at hi
  obtain ⟨cv,h3,h4⟩:=Option.map_eq_some_iff.1 hi
  split at h4
  .subst h4;cases ho
  .rename_i hf
   subst h4
   exact ⟨⟨cv,h3,xN w cv ho⟩,hf⟩
 .rw [kQ]at hb
  rw [jz,AP (by omega)]
 .obtain ⟨rfl,ha⟩:=hr _ _ h
  exact (te ha).2
end
end Go.Ev
end

