/- Lg: a part of the evaluator,of its logic,or of the laws' walk in it. -/
import Derived.Test.YtnndgkcpacpleaaGreatDoorEvD
open Nat renaming le_refl → YB,beq → YM,ble → YX,add → Yd,zero_le → Yf,mul → Yj,mod → Yq,le_trans → Yr,shiftLeft → Yt,blt → Yx,shiftRight → WC,succ → WN,ble_eq_true_of_le → WV,div → Wf,sub → Wn,ne_of_lt → QW,le_of_lt → QY
open Or renaming inr → YE
open List renaming mem_cons_of_mem → YI,mem_cons_self → YJ
open Array renaming getElem?_eq_some_iff → YN
open Eq renaming trans → YY
set_option linter.unusedVariables false
set_option linter.unusedSimpArgs false
set_option linter.unusedSectionVars false
open Nat renaming reduceAdd→ZA,reduceSub→ZB,reduceMul→ZC,reduceEqDiff→ZD,reduceLT→ZE,reduceDiv→ZF,reduceMod→ZG,reduceLeDiff→ZH
section
namespace Go.Ev
def HT.has:HT->Nat->Prop
 | .e,_=>False
 | .n _ _ _,0=>True
 | .n _ l r,j+1=>if j % 2=0 then l.has (j / 2) else r.has (j / 2)
def HT.put (x:eK):HT->Nat->HT
 | .e,_=>.n x .e .e
 | .n _ l r,0=>.n x l r
 | .n u l r,j+1=>if j % 2=0 then .n u (l.put x (j / 2)) r else .n u l (r.put x (j / 2))
def HT.can:HT->Nat->Prop
 | .e,k=>k=0
 | .n _ _ _,0=>True
 | .n _ l r,j+1=>if j % 2=0 then l.can (j / 2) else r.can (j / 2)
theorem HT.Ce:∀ (t:HT) (k:Nat),t.has k->t.can k
 | .e,_,h=>h.elim
 | .n _ _ _,0,_=>trivial
 | .n _ l r,j+1,h=>by
  simp only [HT.has,HT.can]at h ⊢
  split
  .rename_i hj;rw [if_pos hj]at h;exact Ce l _ h
  .rename_i hj;rw [if_neg hj]at h;exact Ce r _ h
theorem HT.wU:∀ (t:HT) (k:Nat),(∀ j,j<k->t.has j)->t.can k
 | .e,k,h=>by
  cases k with
  | zero=>rfl
  | succ k=>exact (h 0 (by omega)).elim
 | .n _ _ _,0,_=>trivial
 | .n u l r,j+1,h=>by
  simp only [HT.can]
  split
  .rename_i hj
   refine wU l _ λi hi=>?_
   have:=h (2*i+1) (by omega)
   simp only [HT.has]at this
   rw [if_pos (by omega),show 2*i/2=i by omega]at this
   exact this
  .rename_i hj
   refine wU r _ λi hi=>?_
   have:=h (2*i+1+1) (by omega)
   simp only [HT.has]at this
   rw [if_neg (by omega),show (2*i+1)/2=i by omega]at this
   exact this
theorem HT.vW {x:eK}:∀ (t:HT) (k:Nat) (c:HT->R),t.can k->t.set x k c=c (t.put x k)
 | .e,k,c,h=>by
  simp only [HT.can]at h
  subst h
  rfl
 | .n _ _ _,0,_,_=>rfl
 | .n u l r,j+1,c,h=>by
  simp only [HT.can]at h
  show Nat.rec (motive:=λ_=>R) (l.set x (j/2) λl'=>c (.n u l' r)) (λ_ _=>r.set x (j/2) λr'=>c (.n u l r')) (j%2)=_
  simp only [HT.put]
  by_cases hj:j%2=0
  .rw [if_pos hj]at h ⊢
   rw [hj]
   exact vW l _ _ h
  .rw [if_neg hj]at h ⊢
   rw [show j%2=1 by omega]
   exact vW r _ _ h
theorem HT.aE {x:eK}:∀ (t:HT) (k j:Nat),t.can k->(t.put x k).get j=if j=k then x else t.get j
 | .e,k,j,h=>by
  simp only [HT.can]at h
  subst h
  cases j with
  | zero=>rfl
  | succ j=>simp only [HT.put,HT.cO,HT.uE];simp
 | .n u l r,0,j,_=>by
  cases j with
  | zero=>rfl
  | succ j=>simp only [HT.put,HT.cO];simp
 | .n u l r,k+1,j,h=>by
  simp only [HT.can]at h
  by_cases hk:k%2=0
  .rw [if_pos hk]at h
   simp only [HT.put,if_pos hk]
   cases j with
   | zero=>simp [HT.Gj]
   | succ j=>
    simp only [HT.cO,aE l _ _ h]
    by_cases hj:j%2=0
    .simp only [if_pos hj]
     by_cases he:j=k
     .subst he;simp
     .rw [if_neg (by omega),if_neg (by omega)]
    .simp only [if_neg hj]
     rw [if_neg (by omega)]
  .rw [if_neg hk]at h
   simp only [HT.put,if_neg hk]
   cases j with
   | zero=>simp [HT.Gj]
   | succ j=>
    simp only [HT.cO,aE r _ _ h]
    by_cases hj:j%2=0
    .simp only [if_pos hj]
     rw [if_neg (by omega)]
    .simp only [if_neg hj]
     by_cases he:j=k
     .subst he;simp
     .rw [if_neg (by omega),if_neg (by omega)]
theorem HT.vN {x:eK}:∀ (t:HT) (k j:Nat),t.can k->((t.put x k).has j↔j=k\/t.has j)
 | .e,k,j,h=>by
  simp only [HT.can]at h
  subst h
  cases j with
  | zero=>simp [HT.put,HT.has]
  | succ j=>simp only [HT.put,HT.has];split<;>simp
 | .n u l r,0,j,_=>by
  cases j with
  | zero=>simp [HT.put,HT.has]
  | succ j=>simp [HT.put,HT.has]
 | .n u l r,k+1,j,h=>by
  simp only [HT.can]at h
  by_cases hk:k%2=0
  .rw [if_pos hk]at h
   simp only [HT.put,if_pos hk]
   cases j with
   | zero=>simp [HT.has]
   | succ j=>
    simp only [HT.has]
    by_cases hj:j%2=0
    .simp only [if_pos hj,vN l _ _ h]
     constructor<;>rintro (h|h)<;>first|exact YE h|(left;omega)
    .simp only [if_neg hj]
     constructor
     .exact YE
     .rintro (h|h)
      .omega
      .exact h
  .rw [if_neg hk]at h
   simp only [HT.put,if_neg hk]
   cases j with
   | zero=>simp [HT.has]
   | succ j=>
    simp only [HT.has]
    by_cases hj:j%2=0
    .simp only [if_pos hj]
     constructor
     .exact YE
     .rintro (h|h)
      .omega
      .exact h
    .simp only [if_neg hj,vN r _ _ h]
     constructor<;>rintro (h|h)<;>first|exact YE h|(left;omega)
def Heap.wf (H:Heap):Prop:=∀ b,b<H.n->H.t.has b
open Classical in
noncomputable def Heap.put (H:Heap) (b:Nat) (x:eK):Heap:=if H.wf/\b<H.n then .mk H.n (if H.bz<=b then H.bz else b) (H.t.put x b) else H
open Classical in
noncomputable def Heap.new (H:Heap) (x:eK):Heap:=.mk (H.n+1) H.bz (if H.wf then H.t.put x H.n else H.t)
section
variable {H:Heap} {b:Nat} {x y:eK}
theorem Heap.nG (h:H.wf) (hb:b<H.n):H.put b x = .mk H.n (if H.bz<=b then H.bz else b) (H.t.put x b):=if_pos ⟨h,hb⟩
theorem Heap.Cy (h:H.wf):H.new x = .mk (H.n+1) H.bz (H.t.put x H.n):=by
 unfold Heap.new
 rw [if_pos h]
theorem Heap.aR:(H.put b x).n=H.n:=by
 unfold Heap.put
 split<;>rfl
theorem Heap.aM:(H.new x).n=H.n+1:=YY rfl rfl
theorem Heap.nQ:(H.new x).bz=H.bz:=YY rfl rfl
theorem Heap.Dr (h:H.wf) (hb:b<H.n):(H.put b x).bz=if H.bz<=b then H.bz else b:=by rw [Heap.nG h hb];rfl
theorem Heap.wf.can (h:H.wf) (hb:b<=H.n):H.t.can b:=by
 rcases Nat.lt_or_eq_of_le hb with hb|rfl
 .exact H.t.Ce b (h b hb)
 .exact H.t.wU _ h
theorem Heap.bF:(H.put b x).wf=H.wf:=by
 by_cases h:H.wf/\b<H.n
 .rw [Heap.nG h.1 h.2]
  exact propext ⟨λ_=>h.1,λ_ j hj=>(HT.vN _ _ _ (h.1.can (QY h.2))).2 (YE (h.1 j hj))⟩
 .unfold Heap.put
  rw [if_neg h]
theorem Heap.aX:(H.new x).wf=H.wf:=by
 by_cases h:H.wf
 .rw [Heap.Cy h]
  exact propext ⟨λ_=>h,λ_ j hj=>(HT.vN _ _ _ (h.can (YB _))).2 (by
   have:j<H.n+1:=hj
   rcases Nat.lt_or_ge j H.n with h'|h'
   .exact YE (h j h')
   .exact Or.inl (by omega))⟩
 .refine propext ⟨λh2=>absurd (λj hj=>?_) h,λh2=>absurd h2 h⟩
  have:=h2 j (Nat.lt_succ_of_lt hj)
  unfold Heap.new at this
  rw [if_neg h]at this
  exact this
theorem Heap.aE (h:H.wf) (hb:b<H.n) (j:Nat):(H.put b x).get j=if j=b then x else H.get j:=by
 rw [Heap.nG h hb]
 exact HT.aE _ _ _ (h.can (QY hb))
theorem Heap.aD (h:H.wf) (j:Nat):(H.new x).get j=if j=H.n then x else H.get j:=by
 rw [Heap.Cy h]
 exact HT.aE _ _ _ (h.can (YB _))
theorem fm {id} {k} (h:H.wf) (hb:b<H.n):da id H b x k=k (H.put b x):=by
 rw [Heap.nG h hb]
 cases H with
 | mk n bz t=>
  show aF (Yx b n) (HT.set x t b λt'=>aF (YX bz b) (k (.mk n bz t')) (k (.mk n b t'))) (no 0)=_
  have hb':=hb
  have h1:Yx b n=true:=WV hb'
  rw [h1]
  rw [HT.vW t _ _ (h.can (QY hb))]
  show aF (YX bz b) _ _=k (.mk n (if bz<=b then bz else b) (t.put x b))
  by_cases hw:bz<=b
  .rw [WV hw,if_pos hw];rfl
  .have:YX bz b=false:=by
    cases hc:YX bz b with
    | false=>rfl
    | true=>exact absurd (Nat.le_of_ble_eq_true hc) hw
   rw [this,if_neg hw];rfl
theorem cE {k} (h:H.wf):cB H x k=k H.n (H.new x):=by
 rw [Heap.Cy h]
 cases H with
 | mk n bz t=>
  show HT.set x t n (λt'=>au (WN n) λn'=>k n (.mk n' bz t'))=_
  rw [HT.vW t n _ (h.can (YB n)),aw]
  rfl
end
theorem HT.iU {x y:eK}:∀ (t:HT) (k:Nat),t.can k->(t.put x k).put y k=t.put y k
 | .e,k,h=>by
  simp only [HT.can]at h
  subst h
  rfl
 | .n _ _ _,0,_=>rfl
 | .n u l r,k+1,h=>by
  simp only [HT.can]at h
  simp only [HT.put]
  by_cases hk:k%2=0
  .rw [if_pos hk]at h
   simp only [if_pos hk,HT.put,iU l _ h]
  .rw [if_neg hk]at h
   simp only [if_neg hk,HT.put,iU r _ h]
theorem Heap.iU {H:Heap} {b:Nat} {x y:eK}:(H.put b x).put b y=H.put b y:=by
 by_cases h:H.wf/\b<H.n
 .have h1:(H.put b x).wf:=by rw [Heap.bF];exact h.1
  have h2:b<(H.put b x).n:=by rw [Heap.aR];exact h.2
  rw [Heap.nG h1 h2,Heap.nG h.1 h.2,Heap.nG h.1 h.2]
  show Heap.mk H.n (if (if H.bz<=b then H.bz else b)<=b then (if H.bz<=b then H.bz else b) else b) ((H.t.put x b).put y b)=Heap.mk H.n _ _
  rw [HT.iU _ _ (h.1.can (QY h.2))]
  congr 1
  split<;>simp_all
 .have e:H.put b x=H:=if_neg h
  rw [e]
theorem bB {c} {t f}:aF c t f=if c=true then t else f:=by cases c<;>rfl
@[simp] theorem Cx {a b}:(Yx a b=true)=(a<b):=by
 simp
@[simp] theorem lU {a b:Nat}:(YX a b=true)=(a<=b):=by
 simp
@[simp] theorem om {a b:Nat}:(YM a b=true)=(a=b):=by
 simp
end Go.Ev
end
section
namespace Go.Ev
section
variable {id:Nat} {x y:V}
@[congr] theorem abx {f} (h:x=y):cC id x f=cC id y f:=by rw [h]
@[congr] theorem Zm {f} (h:x=y):eV id x f=eV id y f:=by rw [h]
@[congr] theorem abA {f} (h:x=y):ej id x f=ej id y f:=by rw [h]
@[congr] theorem abz {f} (h:x=y):dQ id x f=dQ id y f:=by rw [h]
@[congr] theorem Xs {f} (h:x=y):lY id x f=lY id y f:=by rw [h]
@[congr] theorem Uu {f} {z} (h:x=y):bG id x f z=bG id y f z:=by rw [h]
@[congr] theorem aby {f} (h:x=y):Iz id x f=Iz id y f:=by rw [h]
@[congr] theorem Zn {f} {z} (h:x=y):qS id x f z=qS id y f z:=by rw [h]
@[congr] theorem abv {f} (h:x=y):iS id x f=iS id y f:=by rw [h]
@[congr] theorem abB {f} (h:x=y):zO id x f=zO id y f:=by rw [h]
@[congr] theorem Xr {f} (h:x=y):dO id x f=dO id y f:=by rw [h]
@[congr] theorem Y7 {f} (h:x=y):dZ id x f=dZ id y f:=by rw [h]
@[congr] theorem Y6 {f} (h:x=y):isKey id x f=isKey id y f:=by rw [h]
@[congr] theorem Zc {f} (h:x=y):gh id x f=gh id y f:=by rw [h]
@[congr] theorem abP {b} {t f} (h:x=y):IM x b t f=IM y b t f:=by rw [h]
theorem yR {k n} {f}:cC id (.int k n) f=f k n:=YY rfl rfl
theorem Li {b} {f}:eV id (.bool b) f=f b:=YY rfl rfl
theorem Ud {l n} {f}:ej id (.str l n) f=f l n:=YY rfl rfl
theorem Uc {b o} {f}:dQ id (.ptr b o) f=f b o:=YY rfl rfl
theorem Dk {b o l c s} {f}:lY id (.slice b o l c s) f=f b o l c s:=YY rfl rfl
theorem cw {b o l c s} {f} {z}:bG id (.slice b o l c s) f z=f b o l c s:=YY rfl rfl
theorem eC {f} {z}:bG id .az f z=z:=YY rfl rfl
theorem Ub {b} {f}:Iz id (.map b) f=f b:=YY rfl rfl
theorem OH {b} {f} {z}:qS id (.map b) f z=f b:=YY rfl rfl
theorem Ua {l} {f}:iS id (.agg l) f=f l:=YY rfl rfl
theorem Ue {l} {f}:zO id (.cH l) f=f l:=YY rfl rfl
theorem Lk {k n} {f}:dO id (.int k n) f=f [.int k n]:=YY rfl rfl
theorem Iv {b} {f}:dO id (.bool b) f=f [.bool b]:=YY rfl rfl
theorem Ln {l n} {f}:dO id (.str l n) f=f [.str l n]:=YY rfl rfl
theorem Lm {b o} {f}:dO id (.ptr b o) f=f [.ptr b o]:=YY rfl rfl
theorem Di {b o l c s} {f}:dO id (.slice b o l c s) f=f [.slice b o l c s]:=YY rfl rfl
theorem Ix {f}:dO id .az f=f [.az]:=YY rfl rfl
theorem Ll {b} {f}:dO id (.map b) f=f [.map b]:=YY rfl rfl
theorem Iw {n} {l} {f}:dO id (.func n l) f=f [.func n l]:=YY rfl rfl
theorem Lj {l} {f}:dO id (.agg l) f=f l:=YY rfl rfl
theorem AA {k n} {f}:dZ id (.int k n) f=f:=YY rfl rfl
theorem JZ {b} {f}:dZ id (.bool b) f=f:=YY rfl rfl
theorem AE {l n} {f}:dZ id (.str l n) f=f:=YY rfl rfl
theorem NG {b o} {f}:dZ id (.ptr b o) f=f:=YY rfl rfl
theorem Gv {b o l c s} {f}:dZ id (.slice b o l c s) f=f:=YY rfl rfl
theorem J1 {f}:dZ id .az f=f:=YY rfl rfl
theorem NF {b} {f}:dZ id (.map b) f=f:=YY rfl rfl
theorem J0 {n} {l} {f}:dZ id (.func n l) f=f:=YY rfl rfl
theorem ND {k n} {f}:isKey id (.int k n) f=f:=YY rfl rfl
theorem Ke {b} {f}:gh id (.bool b) f=aF b (f 2) (f 3):=YY rfl rfl
theorem NU {b o} {f}:gh id (.ptr b o) f=f 11:=YY rfl rfl
theorem Kg {f}:gh id .pK f=f 10:=YY rfl rfl
theorem Hc {b o l c s} {f}:gh id (.slice b o l c s) f=f 21:=YY rfl rfl
theorem Kh {f}:gh id .az f=f 20:=YY rfl rfl
theorem NT {b} {f}:gh id (.map b) f=f 31:=YY rfl rfl
theorem Kf {f}:gh id .yg f=f 30:=YY rfl rfl
theorem aaF {t f}:IM (.bool true) true t f=t:=YY rfl rfl
theorem aaE {t f}:IM (.bool true) false t f=f:=YY rfl rfl
theorem aaC {t f}:IM (.bool false) true t f=f:=YY rfl rfl
theorem aaB {t f}:IM (.bool false) false t f=t:=YY rfl rfl
end
theorem W4 {s} {e}:ay (.s s) e=ae s e:=YY rfl rfl
theorem W3 {v} {e}:ay (.c v) e=v:=YY rfl rfl
section
variable {fuel id:Nat} {ph:cU} {e:Env} {H:Heap} {kn:KE} {kx:Nat->KE} {a b:ah} {k:Env->Heap->R} {l:List rQ} {d:Option Slot} {op:lA} {cls:Nat}
theorem RE:eR .skip fuel ph e H kn kx=kn e H:=YY rfl rfl
theorem qi:eR (.seq a b) fuel ph e H kn kx=eR a fuel ph e H (λe H=>eR b fuel ph e H kn kx) kx:=YY rfl rfl
theorem B9:eR (.sO l) fuel ph e H kn kx=fJ ph l e H kn:=YY rfl rfl
theorem FD:eR (.sm l) fuel ph e H kn kx=bO ph l e H kn:=YY rfl rfl
theorem RA {c}:eR (.cond c a b) fuel ph e H kn kx=eV 0 (ay c e) λq=>if q=true then eR a fuel ph e H kn kx else eR b fuel ph e H kn kx:=by
 show aG c e (λv=>eV 0 v λq=>aF q (eR a fuel ph e H kn kx) (eR b fuel ph e H kn kx))=_
 rw [aq]
 congr 1
 funext q
 exact bB
theorem Ns:eR (.block id a) fuel ph e H kn kx=eR a fuel ph e H kn λn e H=>if n=id+1 then kn e H else kx n e H:=by
 show eR a fuel ph e H kn (λn e H=>aF (YM n (WN id)) (kn e H) (kx n e H))=_
 congr 1
 funext n e H
 rw [bB]
 simp
theorem RB:eR (.exit id) fuel ph e H kn kx=kx (id+1) e H:=YY rfl rfl
theorem Vf:eR .ret fuel ph e H kn kx=kx 0 e H:=YY rfl rfl
noncomputable def jQ (a:ah) (fuel:Nat) (ph:cU) (kx:Nat->KE) (n:Nat):KE:=Nat.rec (motive:=λ_=>Env->Heap->R) (λ_ _=>no 3) (λ_ ih e H=>eR a fuel ph e H ih kx) n
theorem RD:eR (.loop a) fuel ph e H kn kx=jQ a fuel ph kx fuel e H:=YY rfl rfl
theorem ak {n}:jQ a fuel ph kx (n+1) e H=eR a fuel ph e H (jQ a fuel ph kx n) kx:=YY rfl rfl
theorem KF {s} {v} {e}:dJ (some s) v e=lk s v e:=YY rfl rfl
theorem KD {v} {e}:dJ none v e=e:=YY rfl rfl
theorem Nt:fJ ph [] e H k=k e H:=YY rfl rfl
theorem rj:fJ ph (⟨id,d,none,cls,op⟩:: l) e H k=aL op id ph e H λv H'=>fJ ph l (dJ d v e) H' k:=by
 show aL op id ph e H (λv H'=>bV d v e λe'=>fJ ph l e' H' k)=_
 simp only [cq]
theorem rk {s} {b}:fJ ph (⟨id,d,some (s,b),cls,op⟩:: l) e H k=IM (ae s e) b (aL op id ph e H λv H'=>fJ ph l (dJ d v e) H' k) (fJ ph l (dJ d (.cH []) e) H k):=by
 show ik s e (λv=>IM v b (aL op id ph e H λv H'=>bV d v e λe'=>fJ ph l e' H' k) (bV d (.cH []) e λe'=>fJ ph l e' H k))=_
 simp only [cq,dY]
noncomputable def Heap.mark (H:Heap):Heap:=.mk H.n H.n H.t
noncomputable def Heap.dX (H:Heap) (w:Nat):Heap:=.mk H.n w H.t
theorem Heap.SB:H.mark.n=H.n:=YY rfl rfl
theorem Heap.IG:H.mark.bz=H.n:=YY rfl rfl
theorem Heap.F9 {b:Nat}:H.mark.get b=H.get b:=YY rfl rfl
theorem Heap.dm:H.mark.wf=H.wf:=YY rfl rfl
theorem Heap.Dg {w:Nat}:H.mark.dX w=H.dX w:=YY rfl rfl
theorem Heap.Is {w:Nat} {x:eK}:(H.new x).dX w=(H.dX w).new x:=YY rfl rfl
theorem Heap.It:H.dX H.bz=H:=by cases H;rfl
theorem JJ:bO ph [] e H k=k e H:=YY rfl rfl
theorem FE:bO ph (⟨id,d,none,0,op⟩:: l) e H k=aL op id ph e H λv H'=>bO ph l (dJ d v e) H' k:=by
 show aL op id ph e H (λv H'=>bV d v e λe'=>bO ph l e' H' k)=_
 simp only [cq]
theorem FF {s} {b}:bO ph (⟨id,d,some (s,b),0,op⟩:: l) e H k=IM (ae s e) b (aL op id ph e H λv H'=>bO ph l (dJ d v e) H' k) (bO ph l (dJ d (.cH []) e) H k):=by
 show ik s e (λv=>IM v b (aL op id ph e H λv H'=>bV d v e λe'=>bO ph l e' H' k) (bV d (.cH []) e λe'=>bO ph l e' H k))=_
 simp only [cq,dY]
theorem uD:bO ph (⟨id,d,none,1,op⟩:: l) e H k=aL op id ph e H.mark λv H'=>if H.n<=H'.bz then bO ph l (dJ d v e) (H'.dX H.bz) k else no 0:=by
 cases H with
 | mk n bz t=>
  show aL op id ph e (.mk n n t) (λv H'=>Heap.rec (λn' wlo' t'=>aF (YX n wlo') (bV d v e λe'=>bO ph l e' (.mk n' bz t') k) (no 0)) H')=_
  congr 1
  funext v H'
  cases H' with
  | mk n' wlo' t'=>
   show aF (YX n wlo') (bV d v e λe'=>bO ph l e' (.mk n' bz t') k) (no 0)=_
   rw [bB,cq]
   simp only [lU]
   rfl
theorem Ca {s} {b}:bO ph (⟨id,d,some (s,b),1,op⟩:: l) e H k=IM (ae s e) b (aL op id ph e H.mark λv H'=>if H.n<=H'.bz then bO ph l (dJ d v e) (H'.dX H.bz) k else no 0) (bO ph l (dJ d (.cH []) e) H k):=by
 have h1:=uD (id:=id) (ph:=ph) (e:=e) (H:=H) (k:=k) (l:=l) (d:=d) (op:=op)
 have h2:bO ph (⟨id,d,some (s,b),1,op⟩:: l) e H k=ik s e (λv=>IM v b (bO ph (⟨id,d,none,1,op⟩:: l) e H k) (bV d (.cH []) e λe'=>bO ph l e' H k)):=rfl
 rw [h2,dY,cq,h1]
end
end Go.Ev
end
section
namespace Go.Ev
section
variable {id:Nat}
theorem SK {v} {l} {k}:nth id (v :: l) 0 k=k v:=YY rfl rfl
theorem Hd {v} {l} {i} {k}:nth id (v :: l) (i+1) k=nth id l i k:=YY rfl rfl
theorem jT:∀ {l} {i} {v} {k},l[i]? = some v->nth id l i k=k v
 | [],i,v,k,h=>by simp_all
 | x :: l,0,v,k,h=>by simp at h;subst h;rfl
 | x :: l,i+1,v,k,h=>by
  rw [Hd]
  exact jT (by simp_all)
theorem fk:∀ {l} {i} {k},i<=l.length->fI id l i k=k (l.drop i)
 | [],0,k,_=>rfl
 | [],i+1,k,h=>by simp_all
 | x :: l,0,k,_=>rfl
 | x :: l,i+1,k,h=>by
  show fI id l i k=_
  rw [fk (by simp_all)]
  rfl
theorem eP:∀ {l} {i} {k},i<=l.length->takeN id l i k=k (l.take i)
 | [],0,k,_=>rfl
 | [],i+1,k,h=>by simp_all
 | x :: l,0,k,_=>rfl
 | x :: l,i+1,k,h=>by
  show takeN id l i (λr=>k (x :: r))=_
  rw [eP (by simp_all)]
  rfl
theorem CC:∀ {m l} {k},m.length<=l.length->over id m l k=k (m ++ l.drop m.length)
 | [],l,k,_=>rfl
 | x :: m,[],k,h=>by simp_all
 | x :: m,y :: l,k,h=>by
  show over id m l (λq=>k (x :: q))=_
  rw [CC (by simp_all)]
  rfl
theorem sV:∀ {m l} {i} {k},i+m.length<=l.length->setAt id m l i k=k (l.take i ++ (m ++ l.drop (i+m.length)))
 | m,[],0,k,h=>by
  show over id m [] k=_
  rw [CC (by omega)]
  simp
 | m,[],i+1,k,h=>by simp_all
 | m,y :: l,0,k,h=>by
  show over id m (y :: l) k=_
  rw [CC (by omega)]
  simp
 | m,y :: l,i+1,k,h=>by
  show setAt id m l i (λq=>k (y :: q))=_
  rw [sV (by grind)]
  grind
theorem Ou {x} {l} {i} {k} (h:i<l.length):setAt id [x] l i k=k (l.set i x):=by
 rw [sV (by grind),List.set_eq_take_append_cons_drop,if_pos h]
 rfl
theorem Ja {k}:bu id [] k=k:=YY rfl rfl
theorem lC {v} {l} {k}:bu id (v :: l) k=dZ id v (bu id l k):=YY rfl rfl
end
@[congr] theorem Zl {id} {l m} {i j} {k} (h:l=m) (h':i=j):takeN id l i k=takeN id m j k:=by simp_all
@[congr] theorem Zi {id} {m m' l l'} {i j} {k} (h0:m=m') (h:l=l') (h':i=j):setAt id m l i k=setAt id m' l' j k:=by simp_all
@[congr] theorem UK {id} {l m} {k} (h:l=m):bu id l k=bu id m k:=by rw [h]
@[congr] theorem Vh {n m} {k} (h:n=m):au n k=au m k:=by rw [h]
noncomputable def Du (id:Nat) (bl:eK) (off:Nat) (k:V->R):R:=bRd id bl (λl=>nth id l off k) (λlen n=>if off<len then k (.int 4 (n >>> (8*off) &&& 255)) else no 0) λl=>nth id l off λv=>dZ id v (k v)
noncomputable def tZ (id:Nat) (bl:eK) (off n:Nat) (k:List V->R):R:=bRd id bl (λl=>fI id l off λr=>takeN id r n k) (λlen x=>if off+n<=len then k ((aB n (x >>> (8*off))).map eN) else no 0) λl=>fI id l off λr=>takeN id r n λq=>bu id q (k q)
@[congr] theorem abU {id} {x y} {i j} {k} (h:x=y) (h':i=j):Du id x i k=Du id y j k:=by simp_all
@[congr] theorem abe {id} {x y} {i j n m} {k} (h:x=y) (h':i=j) (h2:n=m):tZ id x i n k=tZ id y j m k:=by simp_all
@[congr] theorem abK {id} {x y} {kc} {kb} (h:x=y):uo id x kc kb=uo id y kc kb:=by rw [h]
@[congr] theorem ZI {id} {x y} {k} (h:x=y):sc id x k=sc id y k:=by rw [h]
section
variable {id:Nat} {H:Heap}
theorem fR {l} {kc} {kb}:uo id (.cells l) kc kb=kc l:=YY rfl rfl
theorem MQ {a b} {kc} {kb}:uo id (.bytes a b) kc kb=kb a b:=YY rfl rfl
theorem Pg {es} {k}:sc id (.map es) k=k es:=YY rfl rfl
theorem Sq {b off} {k}:nV id H b off k=uo id (H.get b) (λl=>nth id l off k) λlen n=>if off<len then k (.int 4 (n >>> (8*off) &&& 255)) else no 0:=by
 unfold nV
 rw [aV]
 congr 1
 funext len n
 rw [bB]
 simp only [Cx,aw]
 rfl
theorem abd {b off} {k}:My id H b off k=Du id (H.get b) off k:=by
 unfold My Du
 rw [aV]
 congr 1
 funext len n
 rw [bB]
 simp only [Cx,aw]
 rfl
theorem CO {b off n} {k}:Ht id H b off n k=tZ id (H.get b) off n k:=by
 unfold Ht tZ
 rw [aV]
 congr 1
 funext len x
 rw [bB]
 simp only [lU,iR]
 rfl
theorem Oj {l} {off} {k}:Du id (.cells l) off k=nth id l off k:=YY rfl rfl
theorem Oi {len n off} {k}:Du id (.bytes len n) off k=if off<len then k (.int 4 (n >>> (8*off) &&& 255)) else no 0:=YY rfl rfl
theorem iP {l} {off n} {k}:tZ id (.cells l) off n k=fI id l off λr=>takeN id r n k:=YY rfl rfl
theorem AX {l} {off n} {k}:tZ id (.view l) off n k=fI id l off λr=>takeN id r n λq=>bu id q (k q):=YY rfl rfl
theorem pE {b off n} {k}:ec id H b off n k=uo id (H.get b) (λl=>fI id l off λr=>takeN id r n k) λlen x=>if off+n<=len then k ((aB n (x >>> (8*off))).map eN) else no 0:=by
 unfold ec
 rw [aV]
 congr 1
 funext len x
 rw [bB]
 simp only [lU,iR]
 rfl
theorem K8 {b off} {m} {k}:eJ id H b off m k=uo id (H.get b) (λl=>bu id m (setAt id m l off λl'=>da id H b (.cells l') k))
 λlen x=>iB id m λml mx=>aF (YX (Yd off ml) len)
  (au (Yd (Yq x (Nat.pow 256 off)) (Yt (Yd mx (Yt (WC x (Yj 8 (Yd off ml))) (Yj 8 ml))) (Yj 8 off))) λx'=>da id H b (.bytes len x') k) (no 0):=by
 rfl
end
noncomputable def aj (ph:cU) (x:V) (args:List V) (H:Heap) (k:K):R:=ph x args H k
@[congr] theorem X5 {ph} {x y} {l m} {H G} {k} (h:x=y) (h':l=m) (h2:H=G):aj ph x l H k=aj ph y m G k:=by simp_all
section
variable {id:Nat} {ph:cU} {e:Env} {H:Heap} {k:K}
theorem aa9 {x}:aL (.kN x) id ph e H k=k (ay x e) H:=by
 show aG x e (λv=>k v H)=_
 rw [aq]
theorem V8 {c x y}:aL (.pick c x y) id ph e H k=eV id (ay c e) λb=>if b=true then k (ay x e) H else k (ay y e) H:=by
 show aG c e (λc=>eV id c λb=>aF b (aG x e λv=>k v H) (aG y e λv=>k v H))=_
 simp only [aq,bB]
theorem V6 {z} (h:H.wf):aL (.ir z) id ph e H k=k (.ptr H.n 0) (H.new (.cells z)):=cE (k:=λn H=>k (.ptr n 0) H) h
theorem V5 {n} (h:H.wf):aL (.aaX n) id ph e H k=k (.ptr H.n 0) (H.new (.bytes n 0)):=cE (k:=λn H=>k (.ptr n 0) H) h
theorem SW (h:H.wf):aL .mkMap id ph e H k=k (.map H.n) (H.new (.map [])):=cE (k:=λn H=>k (.map n) H) h
theorem aa3 {x}:aL (.box x) id ph e H k=dO id (ay x e) λl=>bu id l (cB H (.cells l) λn H=>k (.ptr n 0) H):=by
 show aG x e (λv=>dO id v λl=>bu id l (cB H (.cells l) λn H=>k (.ptr n 0) H))=_
 rw [aq]
theorem SU {a}:aL (.cJ a) id ph e H k=dQ id (ay a e) λb o=>My id H b o λv=>k v H:=by
 show aG a e (λa=>dQ id a λb o=>My id H b o λv=>k v H)=_
 rw [aq]
theorem SV {n} {a}:aL (.bR n a) id ph e H k=dQ id (ay a e) λb o=>Ht id H b o n λl=>k (.agg l) H:=by
 show aG a e (λa=>dQ id a λb o=>Ht id H b o n λl=>k (.agg l) H)=_
 rw [aq]
theorem NY {a x}:aL (.eh a x) id ph e H k=dQ id (ay a e) λb o=>dZ id (ay x e) (eJ id H b o [ay x e] λH=>k (.cH []) H):=by
 show aG a e (λa=>dQ id a λb o=>aG x e λx=>dZ id x (eJ id H b o [x] λH=>k (.cH []) H))=_
 simp only [aq]
theorem NZ {n} {a x}:aL (.ei n a x) id ph e H k=dQ id (ay a e) λb o=>iS id (ay x e) λl=>if l.length=n then eJ id H b o l λH=>k (.cH []) H else no 0:=by
 show aG a e (λa=>dQ id a λb o=>aG x e λx=>iS id x λl=>aF (YM (fD l) n) (eJ id H b o l λH=>k (.cH []) H) (no 0))=_
 simp only [aq,bB,om,jR]
noncomputable def IB (v:V) (k:K) (H:Heap):R:=Ma (.c v) 0 (λ_ _ _ _=>0) FC H k
theorem V7 {x}:aL (.Kc x) id ph e H k=IB (ay x e) k H:=by
 show Ma x id ph e H k=_
 unfold IB Ma
 rw [aq,aq]
 rfl
@[congr] theorem Zo {x y} (h:x=y):IB x k H=IB y k H:=by rw [h]
theorem OI {b o}:IB (.ptr b o) k H=k (.ptr b o) H:=YY rfl rfl
theorem aa2 {kd ky} {f} {x y}:aL (.bin kd ky f x y) id ph e H k=cC id (ay x e) λk1 a=>cC id (ay y e) λk2 b=>if k1=kd then (if k2=ky then kE id f a b λr=>k (.int kd r) H else no 0) else no 0:=by
 show aG x e (λx=>cC id x λk1 a=>aG y e λy=>cC id y λk2 b=>aF (YM k1 kd) (aF (YM k2 ky) (kE id f a b λr=>k (.int kd r) H) (no 0)) (no 0))=_
 simp only [aq,bB,om]
theorem aa4 {kd} {f} {x y}:aL (.cmp kd f x y) id ph e H k=cC id (ay x e) λk1 a=>cC id (ay y e) λk2 b=>if k1=kd then (if k2=kd then (if dA f a b=true then k (.bool true) H else k (.bool false) H) else no 0) else no 0:=by
 show aG x e (λx=>cC id x λk1 a=>aG y e λy=>cC id y λk2 b=>aF (YM k1 kd) (aF (YM k2 kd) (aF (dA f a b) (k (.bool true) H) (k (.bool false) H)) (no 0)) (no 0))=_
 simp only [aq,bB,om]
theorem aa5 {kc} {neg} {x y}:aL (.eqv kc neg x y) id ph e H k=gh id (ay x e) λa=>gh id (ay y e) λb=>if a/10=kc then (if b/10=kc then (if a=b then (if a%10=1 then no 0 else k (.bool (!neg)) H) else k (.bool neg) H) else no 0) else no 0:=by
 show aG x e (λx=>gh id x λa=>aG y e λy=>gh id y λb=>aF (YM (Wf a 10) kc) (aF (YM (Wf b 10) kc) (aF (YM a b) (aF (YM (Yq a 10) 1) (no 0) (aF neg (k (.bool false) H) (k (.bool true) H))) (k (.bool neg) H)) (no 0)) (no 0))=_
 have hn:aF neg (k (.bool false) H) (k (.bool true) H)=k (.bool (!neg)) H:=by cases neg<;>rfl
 simp only [aq,bB (c:=YM _ _),om,hn]
 rfl
theorem V0 {x}:aL (.J3 x) id ph e H k=eV id (ay x e) λb=>k (.bool (!b)) H:=by
 show aG x e (λx=>eV id x λb=>aF b (k (.bool false) H) (k (.bool true) H))=_
 rw [aq]
 congr 1
 funext b
 cases b<;>rfl
theorem VU {off} {x}:aL (.fZ off x) id ph e H k=dQ id (ay x e) λb o=>k (.ptr b (o+off)) H:=by
 show aG x e (λx=>dQ id x λb o=>au (Yd o off) λo'=>k (.ptr b o') H)=_
 simp only [aq,aw]
 rfl
theorem VV {off} {x}:aL (.RN off x) id ph e H k=iS id (ay x e) λl=>nth id l off λv=>k v H:=by
 show aG x e (λx=>iS id x λl=>nth id l off λv=>k v H)=_
 rw [aq]
theorem VW {off n} {x}:aL (.RO off n x) id ph e H k=iS id (ay x e) λl=>fI id l off λr=>takeN id r n λq=>k (.agg q) H:=by
 show aG x e (λx=>iS id x λl=>fI id l off λr=>takeN id r n λq=>k (.agg q) H)=_
 rw [aq]
theorem VQ {x} {i}:aL (.RH x i) id ph e H k=zO id (ay x e) λl=>nth id l i λv=>k v H:=by
 show aG x e (λx=>zO id x λl=>nth id l i λv=>k v H)=_
 rw [aq]
theorem aa8 {f} {caps}:aL (.Su f caps) id ph e H k=k (.func f (caps.map (ay · e))) H:=by
 show px caps e (λl=>k (.func f l) H)=_
 rw [ia]
theorem VO {f} {args}:aL (.call f args) id ph e H k=aj ph (.func f []) (args.map (ay · e)) H k:=by
 show px args e (λl=>ph (.func f []) l H k)=_
 rw [ia]
 rfl
theorem SR {x} {args}:aL (.Q2 x args) id ph e H k=aj ph (ay x e) (args.map (ay · e)) H k:=by
 show aG x e (λx=>px args e λl=>ph x l H k)=_
 rw [aq,ia]
 rfl
theorem Mj {n}:lj id n H k=if n<9223372036854775808 then k (.int 3 n) H else no 0:=by
 unfold lj
 rw [bB]
 simp
theorem VZ {x}:aL (.aeG x) id ph e H k=ej id (ay x e) λn _=>lj id n H k:=by
 show aG x e (λx=>ej id x λn _=>lj id n H k)=_
 rw [aq]
theorem VX {x}:aL (.fD x) id ph e H k=bG id (ay x e) (λ_ _ n _ _=>lj id n H k) (lj id 0 H k):=by
 show aG x e (λx=>bG id x (λ_ _ n _ _=>lj id n H k) (lj id 0 H k))=_
 rw [aq]
theorem VY {x}:aL (.NL x) id ph e H k=qS id (ay x e) (λb=>sc id (H.get b) λes=>lj id es.length H k) (lj id 0 H k):=by
 show aG x e (λx=>qS id x (λb=>dC H b λbl=>sc id bl λes=>au (NL es) λn=>lj id n H k) (lj id 0 H k))=_
 simp only [aq,aV,aw,Ct]
theorem aeL {kd o m} {mx} {x y}:aL (.mm kd o m mx x y) id ph e H k=cC id (ay x e) λk1 a=>cC id (ay y e) λk2 b=>if k1=kd then (if k2=kd then k (.int kd (sJ mx o m a b)) H else no 0) else no 0:=by
 show aG x e (λx=>cC id x λk1 a=>aG y e λy=>cC id y λk2 b=>aF (YM k1 kd) (aF (YM k2 kd) (Hk o m mx a b λr=>k (.int kd r) H) (no 0)) (no 0))=_
 simp only [aq,bB,om,yq]
end
section
variable {cp:RC->ah} {t:Nat->Option cP} {fuel d:Nat} {H:Heap} {k:K} {args caps:List V} {f F:Nat} {ps:List Slot} {res:List RV} {c:ah}
noncomputable def mL (res:List RV) (k:K) (e:Env) (H:Heap):R:=xM res e H λl=>KM l λv=>k v H
theorem ax (ht:t F=some (.code ps res c)) (hf:f%2=0) (hF:f/2=F):aj (aN cp t fuel (d+1)) (.func f caps) args H k=gj ps (args ++ caps) FC λe=>eR c fuel (aN cp t fuel d) e H (mL res k) λn e H=>if n=0 then mL res k e H else no 6:=by
 show Nat.rec (motive:=λ_=>R) (jO args caps λargs=>JL t fuel (aN cp t fuel d) (Wf f 2) args H k) (λ_ _=>jO caps args λargs=>JL t fuel (aN cp t fuel d) (Wf f 2) args H k) (Yq f 2)=_
 have h1:Yq f 2=0:=hf
 have h2:Wf f 2=F:=hF
 rw [h1,h2]
 rw [fA]
 show au F (λf=>Option.rec (no (100+f)) (λfn=>Vg fn fuel (aN cp t fuel d) (args ++ caps) H k) (t f))=_
 rw [aw,ht]
 show gj ps (args ++ caps) FC (λe=>eR c fuel (aN cp t fuel d) e H (mL res k) λn e H=>Nat.rec (mL res k e H) (λ_ _=>no 6) n)=_
 congr 1
 funext e
 congr 1
 funext n e H
 cases n<;>rfl
@[congr] theorem Zj {l m} {e} {k} (h:l=m):gj ps l e k=gj ps m e k:=by rw [h]
@[congr] theorem aay {x y} {k} (h:x=y):cB H x k=cB H y k:=by rw [h]
@[congr] theorem aaz {id b c} {x y} {k} (h':b=c) (h:x=y):da id H b x k=da id H c y k:=by simp_all
@[congr] theorem Zf {id} {l m} {k} (h:l=m):iB id l k=iB id m k:=by rw [h]
theorem Ov {e} {k}:gj [] [] e k=k e:=YY rfl rfl
theorem KY {s} {v} {ps} {l} {e} {k}:gj (s :: ps) (v :: l) e k=gj ps l (lk s v e) k:=by
 show KZ s v e (λe'=>gj ps l e' k)=_
 rw [sW]
theorem Ti {e}:mL [] k e H=k (.cH []) H:=YY rfl rfl
theorem Tj {s} {e}:mL [.tmp s] k e H=k (ae s e) H:=by
 show ik s e (λv=>k v H)=_
 rw [dY]
theorem Tl {s s'} {e}:mL [.tmp s,.tmp s'] k e H=k (.cH [ae s e,ae s' e]) H:=by
 show ik s e (λv=>ik s' e λv'=>k (.cH [v,v']) H)=_
 rw [dY,dY]
theorem KL {s s' s2} {e}:mL [.tmp s,.tmp s',.tmp s2] k e H=k (.cH [ae s e,ae s' e,ae s2 e]) H:=by
 show ik s e (λv=>ik s' e λv'=>ik s2 e λv2=>k (.cH [v,v',v2]) H)=_
 rw [dY,dY,dY]
end
end Go.Ev
end
section
namespace Go.Ev
section
variable {id:Nat} {ph:cU} {e:Env} {H:Heap} {k:K}
theorem idx_eq {i} {len} {f}:idx id i e len f=cC id (ay i e) λkd n=>if 3<=kd then (if n<len then (if n<9223372036854775808 then f n else no 0) else no 0) else no 0:=by
 show aG i e (λv=>cC id v λkd n=>aF (YX 3 kd) (aF (Yx n len) (aF (Yx n 9223372036854775808) (f n) (no 0)) (no 0)) (no 0))=_
 simp only [aq,bB,lU,Cx]
theorem aa7 {size} {x i}:aL (.xR size x i) id ph e H k=lY id (ay x e) λb o len _ _=>idx id i e len λn=>k (.ptr b (o+n*size)) H:=by
 show aG x e (λx=>lY id x λb o len _ _=>idx id i e len λn=>au (Yd o (Yj n size)) λo'=>k (.ptr b o') H)=_
 simp only [aq,aw]
 rfl
theorem aa6 {len size} {x i}:aL (.ixA len size x i) id ph e H k=dQ id (ay x e) λb o=>idx id i e len λn=>k (.ptr b (o+n*size)) H:=by
 show aG x e (λx=>dQ id x λb o=>idx id i e len λn=>au (Yd o (Yj n size)) λo'=>k (.ptr b o') H)=_
 simp only [aq,aw]
 rfl
theorem SS {src dst c} {x}:aL (.EM src dst 0 c x) id ph e H k=cC id (ay x e) λk1 a=>if k1=src then k (.int dst (a%c)) H else no 0:=by
 show aG x e (λx=>cC id x λk1 a=>aF (YM k1 src) (au (Yq a c) λr=>k (.int dst r) H) (no 0))=_
 simp only [aq,bB,om,aw]
 rfl
theorem Nu {z} {f}:kJ id e [] z f=f z:=YY rfl rfl
theorem JN {off size} {a} {ps} {z} {f}:kJ id e ((off,size,a):: ps) z f=dO id (ay a e) λl=>if l.length=size then setAt id l z off λz'=>kJ id e ps z' f else no 0:=by
 show aG a e (λv=>dO id v λl=>aF (YM (fD l) size) (setAt id l z off λz'=>kJ id e ps z' f) (no 0))=_
 simp only [aq,bB,om,jR]
theorem SQ {z} {ps}:aL (.build z ps) id ph e H k=kJ id e ps z λl=>k (.agg l) H:=YY rfl rfl
theorem NX {len} {z} {ps}:aL (.iF false len z ps) id ph e H k=kJ id e ps z λl=>bu id l (cB H (.cells l) λb H=>k (.slice b 0 len (len+1) 0) H):=YY rfl rfl
theorem Ko {len} {z} {ps}:aL (.iF true len z ps) id ph e H k=kJ id e ps z λl=>iB id l λln n=>cB H (.bytes ln n) λb H=>k (.slice b 0 len (len+1) 0) H:=YY rfl rfl
theorem W0 {neg} {x y}:aL (.KU neg x y) id ph e H k=ej id (ay x e) λl1 n1=>ej id (ay y e) λl2 n2=>if l1=l2/\n1=n2 then k (.bool (!neg)) H else k (.bool neg) H:=by
 show aG x e (λx=>ej id x λl1 n1=>aG y e λy=>ej id y λl2 n2=>aF (YM l1 l2) (aF (YM n1 n2) (aF neg (k (.bool false) H) (k (.bool true) H)) (k (.bool neg) H)) (k (.bool neg) H))=_
 have hn:aF neg (k (.bool false) H) (k (.bool true) H)=k (.bool (!neg)) H:=by cases neg<;>rfl
 simp only [aq,bB (c:=YM _ _),om,hn]
 grind
theorem V9 {x y}:aL (.Ts x y) id ph e H k=ej id (ay x e) λl1 n1=>ej id (ay y e) λl2 n2=>if l1+l2<9223372036854775808 then k (.str (l1+l2) (n1+n2*256 ^ l1)) H else no 0:=by
 show aG x e (λx=>ej id x λl1 n1=>aG y e λy=>ej id y λl2 n2=>au (Yd l1 l2) λl=>aF (Yx l 9223372036854775808) (au (Yd n1 (Yt n2 (Yj 8 l1))) λn=>k (.str l n) H) (no 0))=_
 simp only [aq,aw,bB,Cx,TF]
 rfl
theorem dV {size b o l c s} {f}:cT id size H (.slice b o l c s) f=if l=0 then f 0 [] else Ht id H b o (l*size) λm=>f l m:=by cases l<;>rfl
@[congr] theorem SF {size} {x y} {f} (h:x=y):cT id size H x f=cT id size H y f:=by rw [h]
theorem nI {a b} {n}:Nat.rec (motive:=λ_=>R) a (λ_ _=>b) n=if n=0 then a else b:=by cases n<;>rfl
theorem cW {size} {s x}:aL (.app false size s x) id ph e H k=cT id size H (ay x e) λn new=>bG id (ay s e) (λb o len cp sz=>if n=0 then k (ay s e) H else rX id size n new b o len cp sz H k)
 (if n=0 then k (ay s e) H else bu id new (if n<=1073741824 then cB H (.cells new) λb' H=>k (.slice b' 0 n 0 size) H else no 0)):=by
 show aG s e (λs=>aG x e λx=>cT id size H x λn new=>
  bG id s (λb o len cp sz=>Nat.rec (k s H) (λ_ _=>rX id size n new b o len cp sz H k) n)
  (Nat.rec (k s H) (λ_ _=>bu id new (aF (YX n 1073741824) (cB H (.cells new) λb' H=>k (.slice b' 0 n 0 size) H) (no 0))) n))=_
 simp only [aq,nI,bB,lU]
theorem mb {size n b len} {new}:rX id size n new b 0 len 0 size H k=bu id new (if len+n<=1073741824 then uo id (H.get b) (λl=>if l.length=len*size then da id H b .dead λH=>cB H (.cells (l ++ new)) λb' H=>k (.slice b' 0 (len+n) 0 size) H else no 0) (λ_ _=>no 0) else no 0):=by
 show bu id new (au (Yd len n) λneed=>aF (YX need 1073741824)
  (aF (YM size size) (aF (YM 0 0) (dC H b λbl=>uo id bl (λl=>aF (YM (fD l) (Yj len size)) (jO l new λl'=>da id H b .dead λH=>cB H (.cells l') λb' H=>k (.slice b' 0 need 0 size) H) (no 0)) (λ_ _=>no 0)) (no 0)) (no 0)) (no 0))=_
 simp only [aw,bB,lU,om,if_true,aV,jR,fA]
 rfl
theorem iE {size n b o len q sz} {new} (h:q<len+n):rX id size n new b o len (q+1) sz H k=bu id new (if len+n<=1073741824 then ec id H b o (len*size) λl=>bu id l (cB H (.cells (l ++ new)) λb' H=>k (.slice b' 0 (len+n) 0 size) H) else no 0):=by
 show bu id new (au (Yd len n) λneed=>aF (YX need 1073741824)
  (aF (YX need q) (eJ id H b (Yd o (Yj len size)) new λH=>k (.slice b o need (q+1) sz) H) (ec id H b o (Yj len size) λl=>bu id l (jO l new λl'=>cB H (.cells l') λb' H=>k (.slice b' 0 need 0 size) H))) (no 0))=_
 have hn:¬ Yd len n<=q:=by simp_all
 simp only [aw,bB,lU,fA,if_neg hn]
 rfl
@[congr] theorem Zy {size n n' b o len cp sz} {new new'} (h:n=n') (h':new=new'):rX id size n new b o len cp sz H k=rX id size n' new' b o len cp sz H k:=by simp_all
theorem ZK {m a b} {f}:kE id (.add m) a b f=f ((a+b)%m):=aw _ _
theorem ZQ {m a b} {f}:kE id (.sub m) a b f=f ((a+(m-b))%m):=aw _ _
theorem ZM {m a b} {f}:kE id (.mul m) a b f=f (a*b%m):=aw _ _
theorem X6 {a b}:(dA .eq a b=true)=(a=b):=om
theorem adk {a b}:(dA .ne a b=true) = ¬ (a=b):=by
 show (Bool.rec true false (YM a b)=true)=_
 rw [<- om]
 cases YM a b<;>simp
theorem LZ {o m a b}:(dA (.lt o m) a b=true)=((a+o)%m<(b+o)%m):=Cx
theorem ED {o m a b}:(dA (.le o m) a b=true)=((a+o)%m<=(b+o)%m):=lU
theorem Q3 {o m a b}:(dA (.gt o m) a b=true)=((b+o)%m<(a+o)%m):=Cx
theorem LY {o m a b}:(dA (.ge o m) a b=true)=((b+o)%m<=(a+o)%m):=lU
def nn (a:Nat):Prop:=a<9223372036854775808
theorem jF {a} (h:nn a):(a+9223372036854775808)%18446744073709551616=a+9223372036854775808:=by unfold nn at h;omega
theorem aeH {a b} (ha:nn a) (hb:nn b):(dA (.lt 9223372036854775808 18446744073709551616) a b=true)=(a<b):=by
 rw [LZ,jF ha,jF hb]
 simp
theorem aeF {a b} (ha:nn a) (hb:nn b):(dA (.le 9223372036854775808 18446744073709551616) a b=true)=(a<=b):=by
 rw [ED,jF ha,jF hb]
 simp
theorem adz {a b} (ha:nn a) (hb:nn b):(dA (.gt 9223372036854775808 18446744073709551616) a b=true)=(b<a):=by
 rw [Q3,jF ha,jF hb]
 simp
theorem F7 {a b} (ha:nn a) (hb:nn b):(dA (.ge 9223372036854775808 18446744073709551616) a b=true)=(b<=a):=by
 rw [LY,jF ha,jF hb]
 simp
theorem abq {a b} (h:b<=a) (ha:nn a):(a+(18446744073709551616-b))%18446744073709551616=a-b:=by unfold nn at ha;omega
theorem Ss {a b} (ha:nn a) (hb:nn b):sJ true 9223372036854775808 18446744073709551616 a b=max a b:=by
 unfold sJ
 rw [if_pos rfl,jF ha,jF hb]
 grind
theorem J5 {a b} (ha:nn a) (hb:nn b):sJ false 9223372036854775808 18446744073709551616 a b=min a b:=by
 unfold sJ
 rw [if_neg (by simp),jF ha,jF hb]
 grind
theorem aaZ {a} (h:a<9223372036854775808):nn a:=h
theorem Pm {d} {f}:gS id none e d f=f d:=YY rfl rfl
theorem Pn {a} {d} {f}:gS id (some a) e d f=cC id (ay a e) λkd n=>if 3<=kd then (if n<9223372036854775808 then f n else no 0) else no 0:=by
 show aG a e (λv=>cC id v λkd n=>aF (YX 3 kd) (aF (Yx n 9223372036854775808) (f n) (no 0)) (no 0))=_
 simp only [aq,bB,lU,Cx]
def aas (p:Nat × V):V × V:=(.int 3 p.1,p.2)
def eX (D:List (Nat × V)):List (V × V):=D.map aas
def Vx (D:List (Nat × V)) (a:Nat):Option V:=(D.find? λp=>p.1 == a).map (·.2)
def Dw:List (Nat × V)->Nat->V->List (Nat × V)
 | [],a,v=>[(a,v)]
 | p :: D,a,v=>if p.1=a then (p.1,v):: D else p :: Dw D a v
def AR (o:Option V) (f:V->R) (z:R):R:=match o with
 | some v=>f v
 | none=>z
@[congr] theorem Zd {o o'} {f} {z} (h:o=o'):AR o f z=AR o' f z:=by rw [h]
theorem Kt {v} {f} {z}:AR (some v) f z=f v:=YY rfl rfl
theorem Ks {f} {z}:AR none f z=z:=YY rfl rfl
theorem AK:∀ {D} {a} {f} {z},uJ id false (eX D) (.int 3 a) f z=AR (Vx D a) f z
 | [],a,f,z=>rfl
 | (b,v):: D,a,f,z=>by
  show aF (YM a b) (f v) (uJ id false (eX D) (.int 3 a) f z)=_
  rw [bB,AK]
  by_cases h:a=b
  .subst h
   simp [Vx,AR]
  .have hb:(b == a)=false:=by simp;omega
   simp [Vx,h,hb]
theorem Ih:∀ {D} {a} {y} {f},Ig id false (eX D) (.int 3 a) y f=f (eX (Dw D a y))
 | [],a,y,f=>rfl
 | (b,v):: D,a,y,f=>by
  show aF (YM a b) (f ((.int 3 b,y):: eX D)) (Ig id false (eX D) (.int 3 a) y λr=>f ((.int 3 b,v):: r))=_
  rw [bB,Ih]
  by_cases h:a=b
  .subst h
   simp [Dw,eX,aas]
  .have hb:¬ b=a:=λh'=>h h'.symm
   simp [Dw,eX,aas,h,hb]
theorem V3 {zero} {ok} {m x} {ks}:aL (.look ks zero ok m x) id ph e H k=qS id (ay m e) (λb=>sc id (H.get b) λes=>uJ id ks es (ay x e) (λv=>if ok=true then k (.cH [v,.bool true]) H else k v H) (if ok=true then k (.cH [zero,.bool false]) H else k zero H)) (if ok=true then k (.cH [zero,.bool false]) H else k zero H):=by
 show aG m e (λm=>aG x e λx=>qS id m (λb=>dC H b λbl=>sc id bl λes=>uJ id ks es x (λv=>aF ok (k (.cH [v,.bool true]) H) (k v H)) (aF ok (k (.cH [zero,.bool false]) H) (k zero H))) (aF ok (k (.cH [zero,.bool false]) H) (k zero H)))=_
 simp only [aq,aV,bB]
theorem V4 {ks} {m x y}:aL (.aaW ks m x y) id ph e H k=Iz id (ay m e) λb=>sc id (H.get b) λes=>isKey id (ay x e) (Ig id ks es (ay x e) (ay y e) λes'=>da id H b (.map es') λH=>k (.cH []) H):=by
 show aG m e (λm=>aG x e λx=>aG y e λy=>Iz id m λb=>dC H b λbl=>sc id bl λes=>isKey id x (Ig id ks es x y λes'=>da id H b (.map es') λH=>k (.cH []) H))=_
 simp only [aq,aV]
@[congr] theorem Y9 {ks} {es es'} {x x'} {f} {z} (h:es=es') (h':x=x'):uJ id ks es x f z=uJ id ks es' x' f z:=by simp_all
@[congr] theorem abm {ks} {es es'} {x x' y y'} {f} (h:es=es') (h':x=x') (h2:y=y'):Ig id ks es x y f=Ig id ks es' x' y' f:=by simp_all
end
end Go.Ev
end
section
namespace Go.Ev
section
variable {id:Nat} {ph:cU} {e:Env} {H:Heap} {k:K}
theorem N5 {f}:iB id [] f=f 0 0:=YY rfl rfl
theorem Kv {x} {l} {f}:iB id (.int 4 x :: l) f=iB id l λlen n=>f (len+1) (x+256*n):=by
 show aF (YM 4 4) (iB id l λlen n=>au (Yd x (Yj 256 n)) λn'=>au (WN len) λlen'=>f len' n') (no 0)=_
 simp only [aw]
 rfl
theorem Sp {b off n} {f}:mH id H b off n f=uo id (H.get b) (λl=>fI id l off λr=>takeN id r n λq=>iB id q λ_ x=>f x) λlen x=>if off+n<=len then f ((x >>> (8*off))%256 ^ n) else no 0:=by
 unfold mH
 rw [aV]
 congr 1
 funext len x
 rw [bB]
 simp only [lU,aw]
 rfl
theorem Hg {z} {l c}:aL (.mkSlice true z l c) id ph e H k=cC id (ay l e) λkl l=>cC id (ay c e) λkc c=>if 3<=kl then (if 3<=kc then (if l<=c then (if c<=16777216 then cB H (.bytes c 0) λb H=>k (.slice b 0 l (c+1) 0) H else no 0) else no 0) else no 0) else no 0:=by
 show aG l e (λl=>cC id l λkl l=>aG c e λc=>cC id c λkc c=>aF (YX 3 kl) (aF (YX 3 kc) (aF (YX l c) (aF (YX c 16777216)
  (cB H (.bytes c 0) λb H=>au (WN c) λc1=>k (.slice b 0 l c1 0) H) (no 0)) (no 0)) (no 0)) (no 0))=_
 simp only [aq,bB,lU,aw]
theorem Kp {x}:aL (.L3 x) id ph e H k=bG id (ay x e) (λb o l _ _=>mH id H b o l λn=>k (.str l n) H) (k (.str 0 0) H):=by
 show aG x e (λx=>bG id x (λb o l _ _=>mH id H b o l λn=>k (.str l n) H) (k (.str 0 0) H))=_
 rw [aq]
theorem Kq {x}:aL (.L4 x) id ph e H k=ej id (ay x e) λl n=>if l<=16777216 then cB H (.bytes l n) λb H=>k (.slice b 0 l 0 1) H else no 0:=by
 show aG x e (λx=>ej id x λl n=>aF (YX l 16777216) (cB H (.bytes l n) λb H=>k (.slice b 0 l 0 1) H) (no 0))=_
 simp only [aq,bB,lU]
theorem W1 {size} {x} {lo hi}:aL (.slV size x lo hi none) id ph e H k=bG id (ay x e) (λb o len cp sz=>gS id lo e 0 λl=>gS id hi e len λh=>if l<=h then
 (if cp=0 then (if h<=len then (if sz=size then k (.slice b (o+l*size) (h-l) 0 sz) H else no 0) else no 0)
  else (if h<=cp-1 then (if cp-1=l then k (.slice b o (h-l) 1 0) H else k (.slice b (o+l*size) (h-l) (cp-1-l+1) 0) H) else no 0)) else no 0)
 (gS id lo e 0 λl=>gS id hi e 0 λh=>if l=0 then (if h=0 then k .az H else no 0) else no 0):=by
 show aG x e (λx=>bG id x (λb o len cp sz=>
  gS id lo e 0 λl=>gS id hi e len λh=>aF (YX l h) (au (Wn h l) λd=>
   (Nat.rec
    (aF (YX h len) (aF (YM sz size) (au (Yd o (Yj l size)) λo'=>k (.slice b o' d 0 sz) H) (no 0)) (no 0))
    (λq _=>aF (YX h q) (aF (YM q l) (k (.slice b o d 1 0) H) (au (Yd o (Yj l size)) λo'=>au (WN (Wn q l)) λc'=>k (.slice b o' d c' 0) H)) (no 0)) cp)) (no 0))
  (gS id lo e 0 λl=>gS id hi e 0 λh=>aF (YM l 0) (aF (YM h 0) (aF (YM 0 0) (k .az H) (no 0)) (no 0)) (no 0)))=_
 simp only [aq,aw,bB,lU,om,if_true]
 congr 1
 funext b o len cp sz
 cases cp with
 | zero=>rfl
 | succ q=>rfl
theorem W2 {size} {x m} {lo hi}:aL (.slV size x lo hi (some m)) id ph e H k=bG id (ay x e) (λb o len cp sz=>gS id lo e 0 λl=>gS id hi e len λh=>if l<=h then
 (gS id (some m) e 0 λm=>if h<=m then (if m<=(if cp=0 then len else cp-1) then (if m=l then k (.slice b o (h-l) 1 0) H else k (.slice b (o+l*size) (h-l) (m-l+1) 0) H) else no 0) else no 0) else no 0)
 (gS id lo e 0 λl=>gS id hi e 0 λh=>gS id (some m) e 0 λm=>if l=0 then (if h=0 then (if m=0 then k .az H else no 0) else no 0) else no 0):=by
 show aG x e (λx=>bG id x (λb o len cp sz=>
  gS id lo e 0 λl=>gS id hi e len λh=>aF (YX l h) (au (Wn h l) λd=>
   gS id (some m) e 0 λm=>aF (YX h m) (aF (YX m (Nat.rec len (λq _=>q) cp)) (aF (YM m l) (k (.slice b o d 1 0) H) (au (Yd o (Yj l size)) λo'=>au (WN (Wn m l)) λc'=>k (.slice b o' d c' 0) H)) (no 0)) (no 0)) (no 0))
  (gS id lo e 0 λl=>gS id hi e 0 λh=>gS id (some m) e 0 λm=>aF (YM l 0) (aF (YM h 0) (aF (YM m 0) (k .az H) (no 0)) (no 0)) (no 0)))=_
 have hc:∀ (cp len),(Nat.rec len (λq _=>q) cp:Nat)=if cp=0 then len else cp-1:=λcp len=>by cases cp<;>rfl
 simp only [aq,aw,bB,lU,om,hc]
 rfl
end
section
variable {cp:RC->ah} {t:Nat->Option cP} {fuel d:Nat} {H:Heap} {k:K} {args caps:List V} {f F:Nat} {g:List V->Heap->K->R}
theorem oO (ht:t F=some (.nat g)) (hf:f%2=0) (hF:f/2=F):aj (aN cp t fuel (d+1)) (.func f caps) args H k=g (args ++ caps) H k:=by
 show Nat.rec (motive:=λ_=>R) (jO args caps λargs=>JL t fuel (aN cp t fuel d) (Wf f 2) args H k) (λ_ _=>jO caps args λargs=>JL t fuel (aN cp t fuel d) (Wf f 2) args H k) (Yq f 2)=_
 have h1:Yq f 2=0:=hf
 have h2:Wf f 2=F:=hF
 rw [h1,h2]
 rw [fA]
 show au F (λf=>Option.rec (no (100+f)) (λfn=>Vg fn fuel (aN cp t fuel d) (args ++ caps) H k) (t f))=_
 rw [aw,ht]
 rfl
end
end Go.Ev
end
section
namespace Go.Ev
def KG (x off ml mx:Nat):Nat:=x%256 ^ off+(mx+(x >>> (8*(off+ml)))*256 ^ ml)*256 ^ off
section
variable {id:Nat} {ph:cU} {e:Env} {H:Heap} {k:K}
theorem TN {b off} {m} {k}:eJ id H b off m k=uo id (H.get b) (λl=>bu id m (setAt id m l off λl'=>da id H b (.cells l') k))
 λlen x=>iB id m λml mx=>if off+ml<=len then da id H b (.bytes len (KG x off ml mx)) k else no 0:=by
 rw [K8]
 congr 1
 funext len x
 congr 1
 funext ml mx
 rw [bB]
 simp only [lU,aw]
 have h:(Yd (Yq x (Nat.pow 256 off)) (Yt (Yd mx (Yt (WC x (Yj 8 (Yd off ml))) (Yj 8 ml))) (Yj 8 off)):Nat)=KG x off ml mx:=by
  rw [TF,TF]
  rfl
 simp_all
theorem aba {n size} {x} {lo hi mx}:aL (.slA n size x lo hi mx) id ph e H k=dQ id (ay x e) λb o=>gS id mx e n λm=>gS id hi e n λh=>gS id lo e 0 λl=>if l<=h then (if h<=m then (if m<=n then (if m=l then k (.slice b o (h-l) 1 0) H else k (.slice b (o+l*size) (h-l) (m-l+1) 0) H) else no 0) else no 0) else no 0:=by
 show aG x e (λx=>dQ id x λb o=>gS id mx e n λm=>gS id hi e n λh=>gS id lo e 0 λl=>aF (YX l h) (aF (YX h m) (aF (YX m n) (au (Wn h l) λd=>aF (YM m l) (k (.slice b o d 1 0) H) (au (Yd o (Yj l size)) λo'=>au (WN (Wn m l)) λc'=>k (.slice b o' d c' 0) H)) (no 0)) (no 0)) (no 0))=_
 simp only [aq,aw,bB,lU,om]
 rfl
theorem ZP {half bits a b} {f}:kE id (.shr half bits) a b f=if a<half then (if b<=bits then f (a >>> b) else (if b<9223372036854775808 then f 0 else no 0)) else no 0:=by
 show aF (Yx a half) (aF (YX b bits) (au (WC a b) f) (aF (Yx b 9223372036854775808) (f 0) (no 0))) (no 0)=_
 simp only [aw,bB,lU,Cx]
 rfl
theorem ZO {m bits a b} {f}:kE id (.shl m bits) a b f=if b<=bits then f ((a <<< b)%m) else (if b<9223372036854775808 then f 0 else no 0):=by
 show aF (YX b bits) (au (Yq (Yt a b) m) f) (aF (Yx b 9223372036854775808) (f 0) (no 0))=_
 simp only [aw,bB,lU,Cx]
 rfl
theorem ZL {a b} {f}:kE id .bor a b f=f (a ||| b):=aw _ _
end
def tv (l:List UInt8):V:=.str l.length (enc l)
end Go.Ev
end
section
namespace Go.Ev
def rq:ah->Option (RC × RC)
 | .seq a b=>match rq a with
  | some r=>some r
  | none=>rq b
 | .cond _ a b=>match rq a with
  | some r=>some r
  | none=>rq b
 | .block _ a=>rq a
 | .loop a=>rq a
 | .kT _ _ a b=>some (a,b)
 | .CM _ _ a b=>some (a,b)
 | _=>none
def abb (o:Option cP):RC × RC:=match o with
 | some (.code _ _ c)=>(rq c).getD (⟨0,0,.ret⟩,⟨0,0,.ret⟩)
 | _=>(⟨0,0,.ret⟩,⟨0,0,.ret⟩)
section
variable {id:Nat} {ph:cU} {e:Env} {H:Heap} {k:K} {fuel:Nat} {kn:KE} {kx:Nat->KE}
theorem JI {g} {ps} {asL bo} {f} {caps} (hw:H.wf) (hg:ay g e = .func f caps) (hf:f%2=0) {G} {v}
 (hcall:∀ k:K,aj ph (.func f caps) [.td (H.n+1)] ((H.new .mark).new (.loop 0 0 e ps asL bo)) k=k v G) {e'} {ps'} {as' bo'} (hG:G.get (H.n+1) = .loop 0 0 e' ps' as' bo') (hGw:G.wf) (hGn:H.n+1<G.n):
 eR (.kT g ps asL bo) fuel ph e H kn kx=kn e (G.put (H.n+1) (.loop 3 0 e' ps' as' bo')):=by
 show aG g e (λg=>yQ 0 g λf caps=>Nat.rec (cB H .mark λ_ H=>cB H (.loop 0 0 e ps asL bo) λb H=>ph (.func f caps) [.td b] H λ_ H=>
  dC H b λbl=>eZ bl λst j e' ps' as' bo'=>Nat.rec (da 0 H b (.loop 3 j e' ps' as' bo') λH=>Nat.rec (kn e H) (λm _=>kx m e H) j) (λs _=>Nat.rec (no 10) (λ_ _=>da 0 H b (.loop 3 j e' ps' as' bo') λH=>Nat.rec (kn e H) (λm _=>kx m e H) j) s) st) (λ_ _=>no 14) (Yq f 2))=_
 rw [aq,hg]
 show Nat.rec (motive:=λ_=>R) _ _ (Yq f 2)=_
 have hf':Yq f 2=0:=hf
 rw [hf']
 rw [cE hw,cE (by rw [Heap.aX];omega),Heap.aM]
 refine (hcall _).trans ?_
 rw [aV,hG]
 show da 0 G (H.n+1) (.loop 3 0 e' ps' as' bo') (λH=>kn e H)=_
 rw [fm hGw hGn]
theorem qd {cp} {t} {d b} {args}:aj (aN cp t fuel (d+1)) (.td b) args H k=X9 cp fuel (aN cp t fuel d) b args H k:=YY rfl rfl
theorem pq {ops}:eR (.aax ops) fuel ph e H kn kx=bD ph H.n ops e H [] [] kn:=by rfl
variable {n0:Nat} {l:List uY} {fl st:List (Nat × Nat)} {dd:Option Slot} {i bf:Nat} {ad:Arg} {op:lA}
theorem kG:bD ph n0 [] e H fl st kn=kn e H:=YY rfl rfl
theorem dG:bD ph n0 (⟨id,dd,none,0,i,bf,ad,op⟩:: l) e H fl st kn=aL op id ph e H λv H'=>bD ph n0 l (dJ dd v e) H' fl st kn:=by
 show aL op id ph e H (λv H'=>bV dd v e λe'=>bD ph n0 l e' H' fl st kn)=_
 simp only [cq]
theorem FH:bD ph n0 (⟨id,dd,none,1,i,bf,ad,op⟩:: l) e H fl st kn=aL op id ph e H.mark λv H'=>if H.n<=H'.bz then bD ph n0 l (dJ dd v e) (H'.dX H.bz) fl st kn else no 0:=by
 cases H with
 | mk n bz t=>
  show aL op id ph e (.mk n n t) (λv H'=>Heap.rec (λn' wlo' t'=>aF (YX n wlo') (bV dd v e λe'=>bD ph n0 l e' (.mk n' bz t') fl st kn) (no 0)) H')=aL op id ph (e) (.mk n n t) _
  congr 1
  funext v H'
  cases H' with
  | mk n' wlo' t'=>
   show aF (YX n wlo') (bV dd v e λe'=>bD ph n0 l e' (.mk n' bz t') fl st kn) (no 0)=_
   rw [bB,cq]
   simp only [lU]
   rfl
theorem dL {id bf b} {k}:dv id bf b [] k=k:=YY rfl rfl
theorem eo {id bf b i' b'} {l} {k}:dv id bf b ((i',b'):: l) k=if Nat.testBit bf i'=true then dv id bf b l k else if b=b' then no 0 else dv id bf b l k:=by
 show aF (Nat.testBit bf i') (dv id bf b l k) (aF (YM b b') (no 0) (dv id bf b l k))=_
 rw [bB,bB]
 simp
theorem kF {b o} (hb:ay ad e = .ptr b o) (hlt:b<n0) {v} (hop:∀ k:K,aL op id ph e H k=k v H) (hst:∀ k:R,dv id bf b st k=k):
 bD ph n0 (⟨id,dd,none,2,i,bf,ad,op⟩:: l) e H fl st kn=bD ph n0 l (dJ dd v e) H ((i,b):: fl) st kn:=by
 show aG ad e (λa=>nR id a λob=>Option.rec (no 0) (λb=>aF (Yx b n0) (dv id bf b st (aL op id ph e H λv H'=>bV dd v e λe'=>bD ph n0 l e' H ((i,b):: fl) st kn)) (no 0)) ob)=_
 rw [aq,hb]
 show aF (Yx b n0) (dv id bf b st (aL op id ph e H λv H'=>bV dd v e λe'=>bD ph n0 l e' H ((i,b):: fl) st kn)) (no 0)=_
 rw [bB,if_pos (by simp_all),hst,hop,cq]
theorem sB {b o} (hb:ay ad e = .ptr b o) {v} {H'} (hop:∀ k:K,aL op id ph e H k=k v H') (hfl:∀ k:R,dv id bf b fl k=k):
 bD ph n0 (⟨id,dd,none,3,i,bf,ad,op⟩:: l) e H fl st kn=bD ph n0 l (dJ dd v e) H' fl ((i,b):: st) kn:=by
 show aG ad e (λa=>nR id a λob=>Option.rec (aL op id ph e H λv H'=>bV dd v e λe'=>bD ph n0 l e' H' fl st kn)
  (λb=>dv id bf b fl (aL op id ph e H λv H'=>bV dd v e λe'=>bD ph n0 l e' H' fl ((i,b):: st) kn)) ob)=_
 rw [aq,hb]
 show dv id bf b fl (aL op id ph e H λv H'=>bV dd v e λe'=>bD ph n0 l e' H' fl ((i,b):: st) kn)=_
 rw [hfl,hop,cq]
end
section
variable {ph:cU} {e:Env} {H:Heap} {kn:KE} {kx:Nat->KE} {n0 id:Nat} {l:List uY} {hs:List Heap} {bs:List Nat} {dd:Option Slot} {i bf fuel:Nat} {ad:Arg} {op:lA}
theorem adt {ops}:eR (.abH ops) fuel ph e H kn kx=fK ph H.n ops e H [] [] kn:=by rfl
theorem HX:∀ {l} {k},(∀ v ∈ l,∃ k n,v = .int k n)->rD l l k=k
 | [],k,_=>rfl
 | v :: l,k,h=>by
  obtain ⟨q,n,rfl⟩:=h v (YJ ..)
  show aF (YM q q) (aF (YM n n) (rD l l k) (no 0)) (no 0)=_
  rw [bB,if_pos (show YM q q=true from by simp),bB,if_pos (show YM n n=true from by simp)]
  exact HX λw hw=>h w (YI _ hw)
end
end Go.Ev
end
section
namespace Go.Ev
attribute [go_sem ↓] KY Ov RE qi B9 FD RA RD Ns RB Vf rj rk Nt FE FF JJ uD Ca aa9 V8 V6 V5 SW aa3 SU SV NY NZ V7 aa2 aa4 aa5 V0 VU VV VW VQ aa8 VO SR VZ VX VY aeL aa7 aa6 SS SQ NX Ko W0 V9 V3 V4 Nu JN Mj idx_eq N5 Kv Sp Hg Kp Kq W1 W2 Pm Pn ZK ZQ ZM Sq pE abd CO Oj Oi iP AX TN aba ZP ZO ZL mb iE cE fm yR Li Ud Uc Dk cw eC Ub OH Ua Ue OI Lk Iv Ln Lm Di Ix Ll Iw Lj AA JZ AE NG Gv J1 NF J0 ND Ke NU Kg Hc Kh NT Kf aaF aaE aaC aaB fR MQ Pg lC Ja SK Hd fk eP Ou sV dV AK Ih Kt Ks Ti Tj Tl KL
attribute [go_sem] List.append_nil List.nil_append List.cons_append X6 adk aeH aeF adz F7 abq Ss J5 aaZ KF KD W4 W3 fv Slot.mk.injEq and_true and_false true_and false_and not_true_eq_false not_false_eq_true if_true if_false Nat.zero_shiftRight Nat.zero_mod Nat.add_zero Nat.zero_add Nat.zero_mul Nat.mul_one Nat.one_mul Yf YB Bool.not_true Bool.not_false Bool.false_eq_true Bool.true_eq_false eq_self List.length_cons List.length_nil List.length_map List.length_append List.set_cons_succ List.set_cons_zero List.map_cons List.map_nil List.take_succ_cons List.take_zero List.take_nil List.drop_succ_cons List.drop_zero List.drop_nil Heap.aE Heap.aD Heap.bF Heap.aX Heap.aR Heap.aM Heap.iU Heap.SB Heap.IG Heap.F9 Heap.dm Heap.Dg Heap.Is Heap.It Heap.nQ
attribute [go_sem] reduceCtorEq ZA ZB ZC ZD ZF ZG ZH
attribute [go_sem ↓] reduceIte
end Go.Ev
end
section
namespace Go.Ev
open Go.RowKit
open Classical
noncomputable def qJ (N:Nat) (v:Value):V:=match nh v with
 | some u=>u
 | none=>match v with
  | .slice (some a) l cap=>if l<=cap then (if a.spot=none/\a.block<N then .slice a.block a.off l (cap+1) 0 else if cap=0 then .slice N a.off 0 1 0 else .cH []) else .cH []
  | .pointer (some a)=>if a.spot=none/\a.block<N then .ptr a.block a.off else .cH []
  | .map (some b)=>if b<N then .map b else .cH []
  | _=>.cH []
noncomputable def sQ (N:Nat) (c:Array Value) (fr:Nat × Nat):List V:=c.toList.mapIdx λi v=>if fr.1<=i/\i<fr.2 then .cH [] else qJ N v
noncomputable def OO (w:World) (b:Nat):eK:=if GB b then .dead else match w.heap[b]? with
 | some (.cells c _ fr)=>.view (sQ w.heap.size c fr)
 | _=>.dead
noncomputable def oG (w:World):Nat->Heap
 | 0=>H0
 | n+1=>(oG w n).new (OO w n)
noncomputable def dR (w:World):Heap:=(oG w (w.heap.size+1)).mark
noncomputable def yB (w:World) (b:Nat):Option Nat:=if (OO w b).alive then some b else none
theorem l9 (w):∀ n,(oG w n).wf/\(oG w n).n=n/\∀ b,(oG w n).get b=if b<n then OO w b else .dead
 | 0=>⟨λb h=>absurd h (Nat.not_lt_zero b),rfl,λb=>by rfl⟩
 | n+1=>by
  obtain ⟨h1,h2,h3⟩:=l9 w n
  refine ⟨by unfold oG;rw [Heap.aX];omega,by unfold oG;rw [Heap.aM,h2],λb=>?_⟩
  unfold oG
  rw [Heap.aD h1,h2,h3]
  grind
theorem Pb (w):(dR w).wf:=by unfold dR;rw [Heap.dm];exact (l9 w _).1
theorem lB (w):(dR w).n=w.heap.size+1:=by unfold dR;rw [Heap.SB];exact (l9 w _).2.1
theorem zR (w):(dR w).bz=w.heap.size+1:=by unfold dR;rw [Heap.IG];exact (l9 w _).2.1
theorem Cd {w} {b} (h:w.heap.size<=b):OO w b = .dead:=by
 unfold OO
 simp_all
theorem jY (w) (b):(dR w).get b=OO w b:=by
 unfold dR
 rw [Heap.F9,(l9 w _).2.2]
 split
 .rfl
 .rw [Cd (by omega)]
theorem tR {w} {b} (h:(OO w b).alive):(∃ c e fr,w.heap[b]? = some (.cells c e fr)/\OO w b = .view (sQ w.heap.size c fr))/\¬ GB b:=by
 unfold OO at h ⊢
 by_cases hg:GB b
 .rw [if_pos hg]at h;exact h.elim
 .rw [if_neg hg]at h ⊢
  split at h
  .grind
  .exact h.elim
theorem Lo (w) (v) (h:(qJ w.heap.size v).one=true):VR (mu (yB w) (dR w) w) (qJ w.heap.size v) v:=by
 have hb:∀ b,b<w.heap.size->(mu (yB w) (dR w) w).b b b:=λb hb=>⟨by rw [lB];omega,λha=>by rw [jY]at ha;exact if_pos ha⟩
 unfold qJ at h ⊢
 cases hc:nh v with
 | some u=>exact (ra hc).1
 | none=>
  rw [hc]at h
  simp only at h ⊢
  split at h
  .rename_i a l cap
   split at h
   .rename_i hl
    rw [if_pos hl]
    split at h
    .rename_i hs
     rw [if_pos hs]
     obtain ⟨b,off,spot⟩:=a
     obtain ⟨rfl,hbs⟩:=hs
     exact ⟨b,cap,off,none,rfl,hb b hbs,hl,⟨λq hq=>by omega,λh=>by omega⟩,Or.inl ⟨rfl,rfl⟩⟩
    .rename_i hs
     rw [if_neg hs]
     split at h
     .rename_i h0
      subst h0
      obtain rfl:l=0:=by omega
      exact ⟨a.block,0,a.off,a.spot,rfl,⟨by rw [lB];omega,λha=>by rw [jY,Cd (YB _)]at ha;exact ha.elim⟩,YB _,⟨λq hq=>by omega,λh=>by omega⟩,YE rfl⟩
     .cases h
   .cases h
  .rename_i a
   split at h
   .rename_i hs
    rw [if_pos hs]
    obtain ⟨b,off,spot⟩:=a
    simp only [VR]
    simp_all
   .cases h
  .split at h
   .rename_i hs
    rw [if_pos hs]
    simp only [VR]
    simp_all
   .cases h
  .cases h
theorem HK {N} {c} {fr} {i} {cv} (h:c[i]? = some cv) (hf:¬ (fr.1<=i/\i<fr.2)):(sQ N c fr)[i]? = some (qJ N cv):=by
 unfold sQ
 grind
section
variable {P:Program} {base:Nat} {w0 w w':World} {rho:Nat->Option Nat} {H H':Heap}
theorem PR.late (h:PR P base w0 rho H w) (hbl:Below w.heap.size w w') {bl:eK} {o:Obj} {g:Nat} (hn:H'.n=H.n+1) (hw:H'.bz=H.bz) (hg:H'.get H.n=bl) (ho:∀ j,j≠H.n->H'.get j=H.get j)
 (ha:bl.alive) (hgs:w.heap.size<=g) (hnew:w'.heap[g]? = some o) (hb:BR P (mu rho H w) bl o):
 PR P base w0 (λb=>if b=H.n then some g else rho b) H' w'/\Ext rho H w (λb=>if b=H.n then some g else rho b) H' w':=by
 have hlt:=h.lt
 have hgl:g<w'.heap.size:=(YN.1 hnew).1
 have hE:Ext rho H w (λb=>if b=H.n then some g else rho b) H' w':=by
  refine ⟨by omega,by omega,hbl.size,λb hb _=>⟨ho b (by omega),by simp [QW hb]⟩,λb c hb hr=>?_,λb c hr _=>?_,λb hb hal=>?_,λb c hb hr=>?_,λc hc _=>hbl.block c hc,λb hm=>?_,λc cs e fr hc=>⟨cs,e,fr,(hbl.block c (YN.1 hc).1).trans hc,rfl⟩,λc r hc=>⟨r,(hbl.block c (YN.1 hc).1).trans hc⟩⟩
  .simpa [QW hb] using hr
  .have:=hlt b c hr;simp [QW this,hr]
  .rwa [ho b (by omega)]at hal
  .by_cases hb':b=H.n
   .simp [hb']at hr;omega
   .simp [hb']at hr;have:=hlt b c hr;omega
  .have hb':b≠H.n:=λe=>by subst e;rw [h.out H.n (YB _)]at hm;cases hm
   exact ⟨(ho b hb').trans hm,by simp [hb'],λc hc=>hbl.block c (h.jP b c hc).2.2.1⟩
 refine ⟨⟨h.below.trans (hbl.mono h.cQ),Yr h.cQ hbl.size,by have:=h.wn;omega,λb c hr=>?_,λb b' c hr hr'=>?_,λb c hr=>?_,λb hb'=>?_,h.gl.step hE⟩,hE⟩
 .by_cases hb':b=H.n
  .subst hb'
   simp at hr
   subst hr
   exact ⟨by omega,Yr h.cQ hgs,hgl,by rw [hg];exact ha⟩
  .simp [hb']at hr
   obtain ⟨h1,h2,h3,h4⟩:=h.jP b c hr
   exact ⟨by omega,h2,Nat.lt_of_lt_of_le h3 hbl.size,by rw [ho b hb'];exact h4⟩
 .by_cases h1:b=H.n<;>by_cases h2:b'=H.n<;>simp [h1,h2]at hr hr'
  .omega
  .have:=(h.jP b' c hr').2.2.1;omega
  .have:=(h.jP b c hr).2.2.1;omega
  .exact h.inj b b' c hr hr'
 .by_cases hb':b=H.n
  .subst hb'
   simp at hr
   subst hr
   exact ⟨o,hnew,by rw [hg];exact hb.mono hE.mu⟩
  .simp [hb']at hr
   obtain ⟨o',h1,h2⟩:=h.db b c hr
   refine ⟨o',(hbl.block c (h.jP b c hr).2.2.1).trans h1,?_⟩
   rw [ho b hb']
   exact h2.mono hE.mu
 .rw [ho b (by omega)]
  exact h.out b (by omega)
end
section
variable {P:Program}
theorem PR.dR (w:World) (hg:GQ w/\∀ c,GB c->c<w.heap.size:=by exact Gno):PR P 0 w (yB w) (Ev.dR w) w:=by
 have hr:∀ b c,yB w b=some c->b=c/\(OO w b).alive:=λb c h=>by
  unfold yB at h
  split at h
  .rename_i ha;cases h;exact ⟨rfl,ha⟩
  .cases h
 refine ⟨Below.refl _ _,Yf _,by rw [zR,lB];exact YB _,λb c h=>?_,λb b' c h h'=>(hr _ _ h).1.trans (hr _ _ h').1.symm,λb c h=>?_,λb hb=>?_,hg.1,hg.2,λb c h=>?_⟩
 .obtain ⟨rfl,ha⟩:=hr _ _ h
  obtain ⟨⟨cs,e,fr,h1,h2⟩,_⟩:=tR ha
  have hlt:=(YN.1 h1).1
  exact ⟨by rw [lB];omega,Yf _,hlt,by rw [jY];exact ha⟩
 .obtain ⟨rfl,ha⟩:=hr _ _ h
  obtain ⟨⟨cs,e,fr,h1,h2⟩,_⟩:=tR ha
  refine ⟨_,h1,?_⟩
  rw [jY,h2]
  refine ⟨cs,e,fr,rfl,λi v hi ho=>?_⟩
  unfold sQ at hi
  rw [List.getElem?_mapIdx,Array.getElem?_toList]at hi
  obtain ⟨cv,h3,h4⟩:=Option.map_eq_some_iff.1 hi
  split at h4
  .subst h4;cases ho
  .rename_i hf
   subst h4
   exact ⟨⟨cv,h3,Lo w cv ho⟩,hf⟩
 .rw [lB]at hb
  rw [jY,Cd (by omega)]
 .obtain ⟨rfl,ha⟩:=hr _ _ h
  exact (tR ha).2
end
end Go.Ev
end

