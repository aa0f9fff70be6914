/- Lg: a part of the evaluator,of its logic,or of the laws' walk in it. -/
import Derived.Test.YtabnemidjklolaaGreatDoorEvD
open Nat renaming le_refl→YC,beq→YR,zero_le→Ya,ble→Yd,add→Yi,mul→Yn,le_trans→Yr,shiftLeft→Yt,mod→Yx,blt→WC,shiftRight→WD,succ→WQ,ble_eq_true_of_le→WX,div→Wo,sub→QO,le_of_lt→Qe,ne_of_lt→Qn
open Or renaming inr→YD
open List renaming length_cons→YH,mem_cons_of_mem→YI,mem_cons_self→YM,length_nil→YS,getElem?_mapIdx→YN1
open Array renaming getElem?_eq_some_iff→YO,getElem?_toList→Ys
open Eq renaming trans→Ye
set_option linter.unusedVariables false
set_option linter.unusedSimpArgs false
set_option linter.unusedSectionVars false
open Nat renaming reduceAdd→ZA,reduceSub→ZB,reduceMul→ZC,reduceEqDiff→ZD,reduceDiv→ZF,reduceMod→ZG,reduceLeDiff→ZH
section
namespace Go.Ev
def HT.has:HT->Nat->Prop|.e,_=>False|.n _ _ _,0=>True|.n _ l r,j+1=>if j%2=0then l.has (j/2)else r.has (j/2)
def HT.put(x:eN):HT->Nat->HT|.e,_=>.n x .e .e|.n _ l r,0=>.n x l r|.n u l r,j+1=>if j%2=0then .n u (l.put x (j/2)) r else .n u l (r.put x (j/2))
def HT.can:HT->Nat->Prop|.e,k=>k=0|.n _ _ _,0=>True|.n _ l r,j+1=>if j%2=0then l.can (j/2)else r.can (j/2)
theorem HT.De:∀(t:HT)(k:Nat),t.has k->t.can k
 |.e,_,h=>h.elim|.n _ _ _,0,_=>trivial|.n _ l r,j+1,h=>by
  simp only[HT.has,HT.can]at h⊢;split;.rename_i hj;rw[if_pos hj]at h;exact De l _ h
  .rename_i hj;rw[if_neg hj]at h;exact De r _ h
theorem HT.xH:∀(t:HT)(k:Nat),(∀j,j<k->t.has j)->t.can k
 |.e,k,h=>by cases k with|zero=>rfl|succ k=>exact(h 0 (by omega)).elim
 |.n _ _ _,0,_=>trivial|.n u l r,j+1,h=>by
  simp only[HT.can];split;.rename_i hj;refine xH l _ λi hi=>?_;have:=h (2*i+1) (by omega);simp only[HT.has]at this;rw[if_pos (by omega),show 2*i/2=i by omega]at this;exact this
  .rename_i hj;refine xH r _ λi hi=>?_;have:=h (2*i+1+1) (by omega);simp only[HT.has]at this;rw[if_neg (by omega),show(2*i+1)/2=i by omega]at this;exact this
theorem HT.xi{x:eN}:∀(t:HT)(k:Nat)(c:HT->R),t.can k->t.set x k c=c (t.put x k)
 |.e,k,c,h=>by simp only[HT.can]at h;subst h;rfl|.n _ _ _,0,_,_=>rfl|.n u l r,j+1,c,h=>by
  simp only[HT.can]at h;show Nat.rec (motive:=λ_=>R) (l.set x (j/2) λl'=>c (.n u l' r)) (λ_ _=>r.set x (j/2) λr'=>c (.n u l r')) (j%2)=_;simp only[HT.put];by_cases hj:j%2=0;.rw[if_pos hj]at h⊢;rw[hj];exact xi l _ _ h
  .rw[if_neg hj]at h⊢;rw[show j%2=1by omega];exact xi r _ _ h
theorem HT.aC{x:eN}:∀(t:HT)(k j:Nat),t.can k->(t.put x k).get j=if j=k then x else t.get j
 |.e,k,j,h=>by simp only[HT.can]at h;subst h;cases j with|zero=>rfl|succ j=>simp only[HT.put,HT.db,HT.vO];simp
 |.n u l r,0,j,_=>by cases j with|zero=>rfl|succ j=>simp only[HT.put,HT.db];simp
 |.n u l r,k+1,j,h=>by
  simp only[HT.can]at h;by_cases hk:k%2=0;.rw[if_pos hk]at h;simp only[HT.put,if_pos hk];cases j with|zero=>simp[HT.Gz]|succ j=>
    simp only[HT.db,aC l _ _ h];by_cases hj:j%2=0
    .simp only[if_pos hj];by_cases he:j=k;.subst he;simp
     .rw[if_neg (by omega),if_neg (by omega)]
    .simp only[if_neg hj];rw[if_neg (by omega)]
  .rw[if_neg hk]at h;simp only[HT.put,if_neg hk];cases j with|zero=>simp[HT.Gz]|succ j=>
    simp only[HT.db,aC r _ _ h];by_cases hj:j%2=0;.simp only[if_pos hj];rw[if_neg (by omega)]
    .simp only[if_neg hj];by_cases he:j=k;.subst he;simp
     .rw[if_neg (by omega),if_neg (by omega)]
theorem HT.wY{x:eN}:∀(t:HT)(k j:Nat),t.can k->((t.put x k).has j↔j=k\/t.has j)
 |.e,k,j,h=>by simp only[HT.can]at h;subst h;cases j with|zero=>simp[HT.put,HT.has]|succ j=>simp only[HT.put,HT.has];split<;>simp
 |.n u l r,0,j,_=>by cases j with|zero=>simp[HT.put,HT.has]|succ j=>simp[HT.put,HT.has]
 |.n u l r,k+1,j,h=>by
  simp only[HT.can]at h;by_cases hk:k%2=0;.rw[if_pos hk]at h;simp only[HT.put,if_pos hk];cases j with|zero=>simp[HT.has]|succ j=>
    simp only[HT.has];by_cases hj:j%2=0;.simp only[if_pos hj,wY l _ _ h];constructor<;>rintro(h|h)<;>first|exact YD h|(left;omega)
    .simp only[if_neg hj];constructor;.exact YD
     .rintro(h|h);.omega
      .exact h
  .rw[if_neg hk]at h;simp only[HT.put,if_neg hk];cases j with|zero=>simp[HT.has]|succ j=>
    simp only[HT.has];by_cases hj:j%2=0
    .simp only[if_pos hj];constructor;.exact YD
     .rintro(h|h);.omega
      .exact h
    .simp only[if_neg hj,wY r _ _ h];constructor<;>rintro(h|h)<;>first|exact YD h|(left;omega)
def Heap.wf(H:Heap):Prop:=∀b,b<H.n->H.t.has b
open Classical in noncomputable def Heap.put(H:Heap)(b:Nat)(x:eN):Heap:=if H.wf/\b<H.n then .mk H.n (if H.bD<=b then H.bD else b) (H.t.put x b)else H
open Classical in noncomputable def Heap.new(H:Heap)(x:eN):Heap:=.mk (H.n+1) H.bD (if H.wf then H.t.put x H.n else H.t)
section
variable{H:Heap}{b:Nat}{x y:eN}
theorem Heap.oh(h:H.wf)(hb:b<H.n):H.put b x=.mk H.n (if H.bD<=b then H.bD else b) (H.t.put x b):=if_pos ⟨h,hb⟩
theorem Heap.Dx(h:H.wf):H.new x=.mk (H.n+1) H.bD (H.t.put x H.n):=by unfold Heap.new;rw[if_pos h]
theorem Heap.aR:(H.put b x).n=H.n:=by unfold Heap.put;split<;>rfl
theorem Heap.aK:(H.new x).n=H.n+1:=Ye rfl rfl
theorem Heap.oH:(H.new x).bD=H.bD:=Ye rfl rfl
theorem Heap.El(h:H.wf)(hb:b<H.n):(H.put b x).bD=if H.bD<=b then H.bD else b:=by rw[Heap.oh h hb];rfl
theorem Heap.wf.can(h:H.wf)(hb:b<=H.n):H.t.can b:=by
 rcases Nat.lt_or_eq_of_le hb with hb|rfl;.exact H.t.De b (h b hb)
 .exact H.t.xH _ h
theorem Heap.bu:(H.put b x).wf=H.wf:=by
 by_cases h:H.wf/\b<H.n;.rw[Heap.oh h.1 h.2];exact propext ⟨λ_=>h.1,λ_ j hj=>(HT.wY _ _ _ (h.1.can (Qe h.2))).2 (YD (h.1 j hj))⟩
 .unfold Heap.put;rw[if_neg h]
theorem Heap.aY:(H.new x).wf=H.wf:=by
 by_cases h:H.wf;.rw[Heap.Dx h];exact propext ⟨λ_=>h,λ_ j hj=>(HT.wY _ _ _ (h.can (YC _))).2 (by
   have:j<H.n+1:=hj;rcases Nat.lt_or_ge j H.n with h'|h';.exact YD (h j h')
   .exact Or.inl (by omega))⟩
 .refine propext ⟨λh2=>absurd (λj hj=>?_) h,λh2=>absurd h2 h⟩;have:=h2 j (Nat.lt_succ_of_lt hj);unfold Heap.new at this;rw[if_neg h]at this;exact this
theorem Heap.aC(h:H.wf)(hb:b<H.n)(j:Nat):(H.put b x).get j=if j=b then x else H.get j:=by rw[Heap.oh h hb];exact HT.aC _ _ _ (h.can (Qe hb))
theorem Heap.aD(h:H.wf)(j:Nat):(H.new x).get j=if j=H.n then x else H.get j:=by rw[Heap.Dx h];exact HT.aC _ _ _ (h.can (YC _))
theorem ee{id}{k}(h:H.wf)(hb:b<H.n):cJ id H b x k=k (H.put b x):=by rw[Heap.oh h hb];cases H with|mk n bD t=>
  show aH (WC b n) (HT.set x t b λt'=>aH (Yd bD b) (k (.mk n bD t')) (k (.mk n b t'))) (no 0)=_;have hb':=hb;have h1:WC b n=true:=WX hb';rw[h1];rw[HT.xi t _ _ (h.can (Qe hb))];show aH (Yd bD b) _ _=k (.mk n (if bD<=b then bD else b) (t.put x b));by_cases hw:bD<=b;.rw[WX hw,if_pos hw];rfl
  .have:Yd bD b=false:=by cases hc:Yd bD b with|false=>rfl|true=>exact absurd (Nat.le_of_ble_eq_true hc) hw
   rw[this,if_neg hw];rfl
theorem cO{k}(h:H.wf):cN H x k=k H.n (H.new x):=by rw[Heap.Dx h];cases H with|mk n bD t=>show HT.set x t n (λt'=>av (WQ n) λn'=>k n (.mk n' bD t'))=_;rw[HT.xi t n _ (h.can (YC n)),ay];rfl
end
theorem HT.jz{x y:eN}:∀(t:HT)(k:Nat),t.can k->(t.put x k).put y k=t.put y k
 |.e,k,h=>by simp only[HT.can]at h;subst h;rfl|.n _ _ _,0,_=>rfl|.n u l r,k+1,h=>by
  simp only[HT.can]at h;simp only[HT.put];by_cases hk:k%2=0;.rw[if_pos hk]at h;simp only[if_pos hk,HT.put,jz l _ h]
  .rw[if_neg hk]at h;simp only[if_neg hk,HT.put,jz r _ h]
theorem Heap.jz{H:Heap}{b:Nat}{x y:eN}:(H.put b x).put b y=H.put b y:=by
 by_cases h:H.wf/\b<H.n
 .have h1:(H.put b x).wf:=by rw[Heap.bu];exact h.1
  have h2:b<(H.put b x).n:=by rw[Heap.aR];exact h.2
  rw[Heap.oh h1 h2,Heap.oh h.1 h.2,Heap.oh h.1 h.2];show Heap.mk H.n (if(if H.bD<=b then H.bD else b)<=b then(if H.bD<=b then H.bD else b)else b) ((H.t.put x b).put y b)=Heap.mk H.n _ _;rw[HT.jz _ _ (h.1.can (Qe h.2))];congr 1;split<;>simp_all
 .have e:H.put b x=H:=if_neg h;rw[e]
theorem bF{c}{t f}:aH c t f=if c=true then t else f:=by cases c<;>rfl
@[simp]theorem Dw{a b}:(WC a b=true)=(a<b):=by simp
@[simp]theorem my{a b:Nat}:(Yd a b=true)=(a<=b):=by simp
@[simp]theorem po{a b:Nat}:(YR a b=true)=(a=b):=by simp
section
variable{id:Nat}{x y:V}
@[congr]theorem adx{f}(h:x=y):cI id x f=cI id y f:=by rw[h]
@[congr]theorem abx{f}(h:x=y):fm id x f=fm id y f:=by rw[h]
@[congr]theorem adA{f}(h:x=y):er id x f=er id y f:=by rw[h]
@[congr]theorem adz{f}(h:x=y):eH id x f=eH id y f:=by rw[h]
@[congr]theorem aag{f}(h:x=y):mF id x f=mF id y f:=by rw[h]
@[congr]theorem Xd{f}{z}(h:x=y):bC id x f z=bC id y f z:=by rw[h]
@[congr]theorem ady{f}(h:x=y):ve id x f=ve id y f:=by rw[h]
@[congr]theorem aby{f}{z}(h:x=y):rG id x f z=rG id y f z:=by rw[h]
@[congr]theorem adu{f}(h:x=y):js id x f=js id y f:=by rw[h]
@[congr]theorem adB{f}(h:x=y):AU id x f=AU id y f:=by rw[h]
@[congr]theorem aaf{f}(h:x=y):dU id x f=dU id y f:=by rw[h]
@[congr]theorem abe{f}(h:x=y):ef id x f=ef id y f:=by rw[h]
@[congr]theorem abd{f}(h:x=y):isKey id x f=isKey id y f:=by rw[h]
@[congr]theorem abj{f}(h:x=y):gS id x f=gS id y f:=by rw[h]
@[congr]theorem adR{b}{t f}(h:x=y):IN x b t f=IN y b t f:=by rw[h]
theorem Ac{k n}{f}:cI id (.int k n) f=f k n:=Ye rfl rfl
theorem K6{b}{f}:fm id (.bool b) f=f b:=Ye rfl rfl
theorem VV{l n}{f}:er id (.str l n) f=f l n:=Ye rfl rfl
theorem VU{b o}{f}:eH id (.ptr b o) f=f b o:=Ye rfl rfl
theorem Eh{b o l c s}{f}:mF id (.slice b o l c s) f=f b o l c s:=Ye rfl rfl
theorem cE{b o l c s}{f}{z}:bC id (.slice b o l c s) f z=f b o l c s:=Ye rfl rfl
theorem eI{f}{z}:bC id .aE f z=z:=Ye rfl rfl
theorem VS{b}{f}:ve id (.map b) f=f b:=Ye rfl rfl
theorem Q3{b}{f}{z}:rG id (.map b) f z=f b:=Ye rfl rfl
theorem VQ{l}{f}:js id (.agg l) f=f l:=Ye rfl rfl
theorem VW{l}{f}:AU id (.cG l) f=f l:=Ye rfl rfl
theorem K8{k n}{f}:dU id (.int k n) f=f [.int k n]:=Ye rfl rfl
theorem Iy{b}{f}:dU id (.bool b) f=f [.bool b]:=Ye rfl rfl
theorem Lc{l n}{f}:dU id (.str l n) f=f [.str l n]:=Ye rfl rfl
theorem Lb{b o}{f}:dU id (.ptr b o) f=f [.ptr b o]:=Ye rfl rfl
theorem Eg{b o l c s}{f}:dU id (.slice b o l c s) f=f [.slice b o l c s]:=Ye rfl rfl
theorem IA{f}:dU id .aE f=f [.aE]:=Ye rfl rfl
theorem K9{b}{f}:dU id (.map b) f=f [.map b]:=Ye rfl rfl
theorem Iz{n}{l}{f}:dU id (.func n l) f=f [.func n l]:=Ye rfl rfl
theorem K7{l}{f}:dU id (.agg l) f=f l:=Ye rfl rfl
theorem BL{k n}{f}:ef id (.int k n) f=f:=Ye rfl rfl
theorem J6{b}{f}:ef id (.bool b) f=f:=Ye rfl rfl
theorem BN{l n}{f}:ef id (.str l n) f=f:=Ye rfl rfl
theorem OO{b o}{f}:ef id (.ptr b o) f=f:=Ye rfl rfl
theorem GI{b o l c s}{f}:ef id (.slice b o l c s) f=f:=Ye rfl rfl
theorem J8{f}:ef id .aE f=f:=Ye rfl rfl
theorem ON{b}{f}:ef id (.map b) f=f:=Ye rfl rfl
theorem J7{n}{l}{f}:ef id (.func n l) f=f:=Ye rfl rfl
theorem OM{k n}{f}:isKey id (.int k n) f=f:=Ye rfl rfl
theorem Kl{b}{f}:gS id (.bool b) f=aH b (f 2) (f 3):=Ye rfl rfl
theorem O7{b o}{f}:gS id (.ptr b o) f=f 11:=Ye rfl rfl
theorem Ko{f}:gS id .ny f=f 10:=Ye rfl rfl
theorem Hp{b o l c s}{f}:gS id (.slice b o l c s) f=f 21:=Ye rfl rfl
theorem Kp{f}:gS id .aE f=f 20:=Ye rfl rfl
theorem O4{b}{f}:gS id (.map b) f=f 31:=Ye rfl rfl
theorem Km{f}:gS id .wK f=f 30:=Ye rfl rfl
theorem acD{t f}:IN (.bool true) true t f=t:=Ye rfl rfl
theorem acC{t f}:IN (.bool true) false t f=f:=Ye rfl rfl
theorem acA{t f}:IN (.bool false) true t f=f:=Ye rfl rfl
theorem acz{t f}:IN (.bool false) false t f=t:=Ye rfl rfl
end
theorem ZK{s}{e}:aA (.s s) e=af s e:=Ye rfl rfl
theorem ZJ{v}{e}:aA (.c v) e=v:=Ye rfl rfl
section
variable{fuel id:Nat}{ph:dz}{e:Env}{H:Heap}{kn:KE}{kx:Nat->KE}{a b:au}{k:Env->Heap->R}{l:List Er}{d:Option Slot}{op:lU}{cls:Nat}
theorem T0:gH .skip fuel ph e H kn kx=kn e H:=Ye rfl rfl
theorem XW:gH (.seq a b) fuel ph e H kn kx=gH a fuel ph e H (λe H=>gH b fuel ph e H kn kx) kx:=Ye rfl rfl
theorem XU:gH (.wg l) fuel ph e H kn kx=jM ph l e H kn:=Ye rfl rfl
theorem TX:gH (.rT l) fuel ph e H kn kx=da ph l e H kn:=Ye rfl rfl
theorem TW{c}:gH (.cond c a b) fuel ph e H kn kx=fm 0 (aA c e) λq=>if q=true then gH a fuel ph e H kn kx else gH b fuel ph e H kn kx:=by show aJ c e (λv=>fm 0 v λq=>aH q (gH a fuel ph e H kn kx) (gH b fuel ph e H kn kx))=_;rw[aq];congr 1;funext q;exact bF
theorem Ox:gH (.block id a) fuel ph e H kn kx=gH a fuel ph e H kn λn e H=>if n=id+1then kn e H else kx n e H:=by show gH a fuel ph e H kn (λn e H=>aH (YR n (WQ id)) (kn e H) (kx n e H))=_;congr 1;funext n e H;rw[bF];simp
theorem TY:gH (.exit id) fuel ph e H kn kx=kx (id+1) e H:=Ye rfl rfl
theorem XV:gH .ret fuel ph e H kn kx=kx 0 e H:=Ye rfl rfl
noncomputable def kq(a:au)(fuel:Nat)(ph:dz)(kx:Nat->KE)(n:Nat):KE:=Nat.rec (motive:=λ_=>Env->Heap->R) (λ_ _=>no 3) (λ_ ih e H=>gH a fuel ph e H ih kx) n
theorem TZ:gH (.loop a) fuel ph e H kn kx=kq a fuel ph kx fuel e H:=Ye rfl rfl
theorem ak{n}:kq a fuel ph kx (n+1) e H=gH a fuel ph e H (kq a fuel ph kx n) kx:=Ye rfl rfl
theorem KG{s}{v}{e}:dH (some s) v e=jl s v e:=Ye rfl rfl
theorem KF{v}{e}:dH none v e=e:=Ye rfl rfl
theorem Oy:jM ph [] e H k=k e H:=Ye rfl rfl
theorem JO:jM ph (⟨id,d,none,cls,op⟩::l) e H k=aQ op id ph e H λv H'=>jM ph l (dH d v e) H' k:=by show aQ op id ph e H (λv H'=>bZ d v e λe'=>jM ph l e' H' k)=_;simp only[cj]
theorem JP{s}{b}:jM ph (⟨id,d,some (s,b),cls,op⟩::l) e H k=IN (af s e) b (aQ op id ph e H λv H'=>jM ph l (dH d v e) H' k) (jM ph l (dH d (.cG []) e) H k):=by show kE s e (λv=>IN v b (aQ op id ph e H λv H'=>bZ d v e λe'=>jM ph l e' H' k) (bZ d (.cG []) e λe'=>jM ph l e' H k))=_;simp only[cj,eC]
noncomputable def Heap.mark(H:Heap):Heap:=.mk H.n H.n H.t
noncomputable def Heap.dS(H:Heap)(w:Nat):Heap:=.mk H.n w H.t
theorem Heap.Ux:H.mark.n=H.n:=Ye rfl rfl
theorem Heap.IG:H.mark.bD=H.n:=Ye rfl rfl
theorem Heap.Gy{b:Nat}:H.mark.get b=H.get b:=Ye rfl rfl
theorem Heap.eK:H.mark.wf=H.wf:=Ye rfl rfl
theorem Heap.Ee{w:Nat}:H.mark.dS w=H.dS w:=Ye rfl rfl
theorem Heap.Iw{w:Nat}{x:eN}:(H.new x).dS w=(H.dS w).new x:=Ye rfl rfl
theorem Heap.Ix:H.dS H.bD=H:=by cases H;rfl
theorem JM:da ph [] e H k=k e H:=Ye rfl rfl
theorem FX:da ph (⟨id,d,none,0,op⟩::l) e H k=aQ op id ph e H λv H'=>da ph l (dH d v e) H' k:=by show aQ op id ph e H (λv H'=>bZ d v e λe'=>da ph l e' H' k)=_;simp only[cj]
theorem FY{s}{b}:da ph (⟨id,d,some (s,b),0,op⟩::l) e H k=IN (af s e) b (aQ op id ph e H λv H'=>da ph l (dH d v e) H' k) (da ph l (dH d (.cG []) e) H k):=by show kE s e (λv=>IN v b (aQ op id ph e H λv H'=>bZ d v e λe'=>da ph l e' H' k) (bZ d (.cG []) e λe'=>da ph l e' H k))=_;simp only[cj,eC]
theorem vK:da ph (⟨id,d,none,1,op⟩::l) e H k=aQ op id ph e H.mark λv H'=>if H.n<=H'.bD then da ph l (dH d v e) (H'.dS H.bD) k else no 0:=by cases H with|mk n bD t=>show aQ op id ph e (.mk n n t) (λv H'=>Heap.rec (λn' wlo' t'=>aH (Yd n wlo') (bZ d v e λe'=>da ph l e' (.mk n' bD t') k) (no 0)) H')=_;congr 1;funext v H';cases H' with|mk n' wlo' t'=>show aH (Yd n wlo') (bZ d v e λe'=>da ph l e' (.mk n' bD t') k) (no 0)=_;rw[bF,cj];simp only[my];rfl
theorem CZ{s}{b}:da ph (⟨id,d,some (s,b),1,op⟩::l) e H k=IN (af s e) b (aQ op id ph e H.mark λv H'=>if H.n<=H'.bD then da ph l (dH d v e) (H'.dS H.bD) k else no 0) (da ph l (dH d (.cG []) e) H k):=by have h1:=vK (id:=id) (ph:=ph) (e:=e) (H:=H) (k:=k) (l:=l) (d:=d) (op:=op);have h2:da ph (⟨id,d,some (s,b),1,op⟩::l) e H k=kE s e (λv=>IN v b (da ph (⟨id,d,none,1,op⟩::l) e H k) (bZ d (.cG []) e λe'=>da ph l e' H k)):=rfl;rw[h2,eC,cj,h1]
end
section
variable{id:Nat}
theorem UF{v}{l}{k}:nth id (v::l) 0 k=k v:=Ye rfl rfl
theorem Hq{v}{l}{i}{k}:nth id (v::l) (i+1) k=nth id l i k:=Ye rfl rfl
theorem gY:∀{l}{i}{v}{k},l[i]?=some v->nth id l i k=k v|[],i,v,k,h=>by simp_all|x::l,0,v,k,h=>by simp at h;subst h;rfl|x::l,i+1,v,k,h=>by rw[Hq];exact gY (by simp_all)
theorem fA:∀{l}{i}{k},i<=l.length->fR id l i k=k (l.drop i)|[],0,k,_=>rfl|[],i+1,k,h=>by simp_all|x::l,0,k,_=>rfl|x::l,i+1,k,h=>by show fR id l i k=_;rw[fA (by simp_all)];rfl
theorem eW:∀{l}{i}{k},i<=l.length->takeN id l i k=k (l.take i)|[],0,k,_=>rfl|[],i+1,k,h=>by simp_all|x::l,0,k,_=>rfl|x::l,i+1,k,h=>by show takeN id l i (λr=>k (x::r))=_;rw[eW (by simp_all)];rfl
theorem DD:∀{m l}{k},m.length<=l.length->over id m l k=k (m++l.drop m.length)|[],l,k,_=>rfl|x::m,[],k,h=>by simp_all|x::m,y::l,k,h=>by show over id m l (λq=>k (x::q))=_;rw[DD (by simp_all)];rfl
theorem tS:∀{m l}{i}{k},i+m.length<=l.length->setAt id m l i k=k (l.take i++(m++l.drop (i+m.length)))|m,[],0,k,h=>by show over id m [] k=_;rw[DD (by omega)];simp|m,[],i+1,k,h=>by simp_all|m,y::l,0,k,h=>by show over id m (y::l) k=_;rw[DD (by omega)];simp|m,y::l,i+1,k,h=>by show setAt id m l i (λq=>k (y::q))=_;rw[tS (by simp at h;omega)];simp[Nat.add_right_comm]
theorem PI{x}{l}{i}{k}(h:i<l.length):setAt id [x] l i k=k (l.set i x):=by rw[tS (by simp only[YH,YS];omega),List.set_eq_take_append_cons_drop,if_pos h];rfl
theorem Jc{k}:bB id [] k=k:=Ye rfl rfl
theorem lW{v}{l}{k}:bB id (v::l) k=ef id v (bB id l k):=Ye rfl rfl
end
@[congr]theorem abw{id}{l m}{i j}{k}(h:l=m)(h':i=j):takeN id l i k=takeN id m j k:=by simp_all
@[congr]theorem abr{id}{m m' l l'}{i j}{k}(h0:m=m')(h:l=l')(h':i=j):setAt id m l i k=setAt id m' l' j k:=by simp_all
@[congr]theorem Xr{id}{l m}{k}(h:l=m):bB id l k=bB id m k:=by rw[h]
@[congr]theorem XZ{n m}{k}(h:n=m):av n k=av m k:=by rw[h]
noncomputable def DL(id:Nat)(bl:eN)(off:Nat)(k:V->R):R:=bRd id bl (λl=>nth id l off k) (λlen n=>if off<len then k (.int 4 (n>>>(8*off)&&&255))else no 0) λl=>nth id l off λv=>ef id v (k v)
noncomputable def wL(id:Nat)(bl:eN)(off n:Nat)(k:List V->R):R:=bRd id bl (λl=>fR id l off λr=>takeN id r n k) (λlen x=>if off+n<=len then k ((aF n (x>>>(8*off))).map eO)else no 0) λl=>fR id l off λr=>takeN id r n λq=>bB id q (k q)
@[congr]theorem adW{id}{x y}{i j}{k}(h:x=y)(h':i=j):DL id x i k=DL id y j k:=by simp_all
@[congr]theorem adb{id}{x y}{i j n m}{k}(h:x=y)(h':i=j)(h2:n=m):wL id x i n k=wL id y j m k:=by simp_all
@[congr]theorem adM{id}{x y}{kc}{kb}(h:x=y):vt id x kc kb=vt id y kc kb:=by rw[h]
@[congr]theorem abN{id}{x y}{k}(h:x=y):kX id x k=kX id y k:=by rw[h]
section
variable{id:Nat}{H:Heap}
theorem gi{l}{kc}{kb}:vt id (.cells l) kc kb=kc l:=Ye rfl rfl
theorem Nx{a b}{kc}{kb}:vt id (.bytes a b) kc kb=kb a b:=Ye rfl rfl
theorem RM{es}{k}:kX id (.map es) k=k es:=Ye rfl rfl
theorem Up{b off}{k}:oQ id H b off k=vt id (H.get b) (λl=>nth id l off k) λlen n=>if off<len then k (.int 4 (n>>>(8*off)&&&255))else no 0:=by unfold oQ;rw[aU];congr 1;funext len n;rw[bF];simp only[Dw,ay];rfl
theorem ada{b off}{k}:MI id H b off k=DL id (H.get b) off k:=by unfold MI DL;rw[aU];congr 1;funext len n;rw[bF];simp only[Dw,ay];rfl
theorem DM{b off n}{k}:HG id H b off n k=wL id (H.get b) off n k:=by unfold HG wL;rw[aU];congr 1;funext len x;rw[bF];simp only[my,jr];rfl
theorem Py{l}{off}{k}:DL id (.cells l) off k=nth id l off k:=Ye rfl rfl
theorem Px{len n off}{k}:DL id (.bytes len n) off k=if off<len then k (.int 4 (n>>>(8*off)&&&255))else no 0:=Ye rfl rfl
theorem jm{l}{off n}{k}:wL id (.cells l) off n k=fR id l off λr=>takeN id r n k:=Ye rfl rfl
theorem B5{l}{off n}{k}:wL id (.view l) off n k=fR id l off λr=>takeN id r n λq=>bB id q (k q):=Ye rfl rfl
theorem qc{b off n}{k}:fi id H b off n k=vt id (H.get b) (λl=>fR id l off λr=>takeN id r n k) λlen x=>if off+n<=len then k ((aF n (x>>>(8*off))).map eO)else no 0:=by unfold fi;rw[aU];congr 1;funext len x;rw[bF];simp only[my,jr];rfl
theorem K1{b off}{m}{k}:ei id H b off m k=vt id (H.get b) (λl=>bB id m (setAt id m l off λl'=>cJ id H b (.cells l') k)) λlen x=>iV id m λml mx=>aH (Yd (Yi off ml) len) (av (Yi (Yx x (Nat.pow 256 off)) (Yt (Yi mx (Yt (WD x (Yn 8 (Yi off ml))) (Yn 8 ml))) (Yn 8 off))) λx'=>cJ id H b (.bytes len x') k) (no 0):=by rfl
theorem PT{b off}{m}{k}{l}(hb:H.get b=.cells l):ei id H b off m k=bB id m (setAt id m l off λl'=>cJ id H b (.cells l') k):=by unfold ei;rw[aU,hb];rfl
end
noncomputable def aj(ph:dz)(x:V)(args:List V)(H:Heap)(k:K):R:=ph x args H k
@[congr]theorem aa8{ph}{x y}{l m}{H G}{k}(h:x=y)(h':l=m)(h2:H=G):aj ph x l H k=aj ph y m G k:=by simp_all
section
variable{id:Nat}{ph:dz}{e:Env}{H:Heap}{k:K}
theorem ac7{x}:aQ (.lz x) id ph e H k=k (aA x e) H:=by show aJ x e (λv=>k v H)=_;rw[aq]
theorem Zv{c x y}:aQ (.pick c x y) id ph e H k=fm id (aA c e) λb=>if b=true then k (aA x e) H else k (aA y e) H:=by show aJ c e (λc=>fm id c λb=>aH b (aJ x e λv=>k v H) (aJ y e λv=>k v H))=_;simp only[aq,bF]
theorem Zt{z}(h:H.wf):aQ (.nY z) id ph e H k=k (.ptr H.n 0) (H.new (.cells z)):=cO (k:=λn H=>k (.ptr n 0) H) h
theorem Zs{n}(h:H.wf):aQ (.acS n) id ph e H k=k (.ptr H.n 0) (H.new (.bytes n 0)):=cO (k:=λn H=>k (.ptr n 0) H) h
theorem UR(h:H.wf):aQ .mkMap id ph e H k=k (.map H.n) (H.new (.map [])):=cO (k:=λn H=>k (.map n) H) h
theorem ac1{x}:aQ (.box x) id ph e H k=dU id (aA x e) λl=>bB id l (cN H (.cells l) λn H=>k (.ptr n 0) H):=by show aJ x e (λv=>dU id v λl=>bB id l (cN H (.cells l) λn H=>k (.ptr n 0) H))=_;rw[aq]
theorem UP{a}:aQ (.cw a) id ph e H k=eH id (aA a e) λb o=>MI id H b o λv=>k v H:=by show aJ a e (λa=>eH id a λb o=>MI id H b o λv=>k v H)=_;rw[aq]
theorem UQ{n}{a}:aQ (.dc n a) id ph e H k=eH id (aA a e) λb o=>HG id H b o n λl=>k (.agg l) H:=by show aJ a e (λa=>eH id a λb o=>HG id H b o n λl=>k (.agg l) H)=_;rw[aq]
theorem Pf{a x}:aQ (.ep a x) id ph e H k=eH id (aA a e) λb o=>ef id (aA x e) (ei id H b o [aA x e] λH=>k (.cG []) H):=by show aJ a e (λa=>eH id a λb o=>aJ x e λx=>ef id x (ei id H b o [x] λH=>k (.cG []) H))=_;simp only[aq]
theorem Pg{n}{a x}:aQ (.kj n a x) id ph e H k=eH id (aA a e) λb o=>js id (aA x e) λl=>if l.length=n then ei id H b o l λH=>k (.cG []) H else no 0:=by show aJ a e (λa=>eH id a λb o=>aJ x e λx=>js id x λl=>aH (YR (fU l) n) (ei id H b o l λH=>k (.cG []) H) (no 0))=_;simp only[aq,bF,po,kF]
noncomputable def ID(v:V)(k:K)(H:Heap):R:=Me (.c v) 0 (λ_ _ _ _=>0) FU H k
theorem Zu{x}:aQ (.AK x) id ph e H k=ID (aA x e) k H:=by show Me x id ph e H k=_;unfold ID Me;rw[aq,aq];rfl
@[congr]theorem abz{x y}(h:x=y):ID x k H=ID y k H:=by rw[h]
theorem Q4{b o}:ID (.ptr b o) k H=k (.ptr b o) H:=Ye rfl rfl
theorem ac0{kd ky}{f}{x y}:aQ (.bin kd ky f x y) id ph e H k=cI id (aA x e) λk1 a=>cI id (aA y e) λk2 b=>if k1=kd then(if k2=ky then iE id f a b λr=>k (.int kd r) H else no 0)else no 0:=by show aJ x e (λx=>cI id x λk1 a=>aJ y e λy=>cI id y λk2 b=>aH (YR k1 kd) (aH (YR k2 ky) (iE id f a b λr=>k (.int kd r) H) (no 0)) (no 0))=_;simp only[aq,bF,po]
theorem ac2{kd}{f}{x y}:aQ (.cmp kd f x y) id ph e H k=cI id (aA x e) λk1 a=>cI id (aA y e) λk2 b=>if k1=kd then(if k2=kd then(if ej f a b=true then k (.bool true) H else k (.bool false) H)else no 0)else no 0:=by show aJ x e (λx=>cI id x λk1 a=>aJ y e λy=>cI id y λk2 b=>aH (YR k1 kd) (aH (YR k2 kd) (aH (ej f a b) (k (.bool true) H) (k (.bool false) H)) (no 0)) (no 0))=_;simp only[aq,bF,po]
theorem ac3{kc}{neg}{x y}:aQ (.eqv kc neg x y) id ph e H k=gS id (aA x e) λa=>gS id (aA y e) λb=>if a/10=kc then(if b/10=kc then(if a=b then(if a%10=1then no 0 else k (.bool (!neg)) H)else k (.bool neg) H)else no 0)else no 0:=by
 show aJ x e (λx=>gS id x λa=>aJ y e λy=>gS id y λb=>aH (YR (Wo a 10) kc) (aH (YR (Wo b 10) kc) (aH (YR a b) (aH (YR (Yx a 10) 1) (no 0) (aH neg (k (.bool false) H) (k (.bool true) H))) (k (.bool neg) H)) (no 0)) (no 0))=_;have hn:aH neg (k (.bool false) H) (k (.bool true) H)=k (.bool (!neg)) H:=by cases neg<;>rfl
 simp only[aq,bF (c:=YR _ _),po,hn];rfl
theorem Zo{x}:aQ (.AI x) id ph e H k=fm id (aA x e) λb=>k (.bool (!b)) H:=by show aJ x e (λx=>fm id x λb=>aH b (k (.bool false) H) (k (.bool true) H))=_;rw[aq];congr 1;funext b;cases b<;>rfl
theorem Zi{off}{x}:aQ (.gJ off x) id ph e H k=eH id (aA x e) λb o=>k (.ptr b (o+off)) H:=by show aJ x e (λx=>eH id x λb o=>av (Yi o off) λo'=>k (.ptr b o') H)=_;simp only[aq,ay];rfl
theorem Zj{off}{x}:aQ (.T7 off x) id ph e H k=js id (aA x e) λl=>nth id l off λv=>k v H:=by show aJ x e (λx=>js id x λl=>nth id l off λv=>k v H)=_;rw[aq]
theorem Zk{off n}{x}:aQ (.T8 off n x) id ph e H k=js id (aA x e) λl=>fR id l off λr=>takeN id r n λq=>k (.agg q) H:=by show aJ x e (λx=>js id x λl=>fR id l off λr=>takeN id r n λq=>k (.agg q) H)=_;rw[aq]
theorem Zh{x}{i}:aQ (.T4 x i) id ph e H k=AU id (aA x e) λl=>nth id l i λv=>k v H:=by show aJ x e (λx=>AU id x λl=>nth id l i λv=>k v H)=_;rw[aq]
theorem ac6{f}{caps}:aQ (.mkF f caps) id ph e H k=k (.func f (caps.map (aA · e))) H:=by show pT caps e (λl=>k (.func f l) H)=_;rw[iF]
theorem Zg{f}{args}:aQ (.call f args) id ph e H k=aj ph (.func f []) (args.map (aA · e)) H k:=by show pT args e (λl=>ph (.func f []) l H k)=_;rw[iF];rfl
theorem UM{x}{args}:aQ (.Tg x args) id ph e H k=aj ph (aA x e) (args.map (aA · e)) H k:=by show aJ x e (λx=>pT args e λl=>ph x l H k)=_;rw[aq,iF];rfl
theorem Mr{n}:lQ id n H k=if n<9223372036854775808then k (.int 3 n) H else no 0:=by unfold lQ;rw[bF];simp
theorem Zn{x}:aQ (.afW x) id ph e H k=er id (aA x e) λn _=>lQ id n H k:=by show aJ x e (λx=>er id x λn _=>lQ id n H k)=_;rw[aq]
theorem Zl{x}:aQ (.fU x) id ph e H k=bC id (aA x e) (λ_ _ n _ _=>lQ id n H k) (lQ id 0 H k):=by show aJ x e (λx=>bC id x (λ_ _ n _ _=>lQ id n H k) (lQ id 0 H k))=_;rw[aq]
theorem Zm{x}:aQ (.Dr x) id ph e H k=rG id (aA x e) (λb=>kX id (H.get b) λes=>lQ id es.length H k) (lQ id 0 H k):=by show aJ x e (λx=>rG id x (λb=>cR H b λbl=>kX id bl λes=>av (Dr es) λn=>lQ id n H k) (lQ id 0 H k))=_;simp only[aq,aU,ay,Ds]
theorem afZ{kd o m}{mx}{x y}:aQ (.mm kd o m mx x y) id ph e H k=cI id (aA x e) λk1 a=>cI id (aA y e) λk2 b=>if k1=kd then(if k2=kd then k (.int kd (xb mx o m a b)) H else no 0)else no 0:=by show aJ x e (λx=>cI id x λk1 a=>aJ y e λy=>cI id y λk2 b=>aH (YR k1 kd) (aH (YR k2 kd) (HA o m mx a b λr=>k (.int kd r) H) (no 0)) (no 0))=_;simp only[aq,bF,po,zj]
end
section
variable{cp:RC->au}{t:Nat->Option du}{fuel d:Nat}{H:Heap}{k:K}{args caps:List V}{f F:Nat}{ps:List Slot}{res:List RV}{c:au}
noncomputable def uS(res:List RV)(k:K)(e:Env)(H:Heap):R:=yw res e H λl=>KO l λv=>k v H
theorem ax(ht:t F=some (.code ps res c))(hf:f%2=0)(hF:f/2=F):aj (aS cp t fuel (d+1)) (.func f caps) args H k=fX ps (args++caps) FU λe=>gH c fuel (aS cp t fuel d) e H (uS res k) λn e H=>if n=0then uS res k e H else no 6:=by show Nat.rec (motive:=λ_=>R) (kB args caps λargs=>JQ t fuel (aS cp t fuel d) (Wo f 2) args H k) (λ_ _=>kB caps args λargs=>JQ t fuel (aS cp t fuel d) (Wo f 2) args H k) (Yx f 2)=_;have h1:Yx f 2=0:=hf;have h2:Wo f 2=F:=hF;rw[h1,h2];rw[fK];show av F (λf=>Option.rec (no (100+f)) (λfn=>XX fn fuel (aS cp t fuel d) (args++caps) H k) (t f))=_;rw[ay,ht];show fX ps (args++caps) FU (λe=>gH c fuel (aS cp t fuel d) e H (uS res k) λn e H=>Nat.rec (uS res k e H) (λ_ _=>no 6) n)=_;congr 1;funext e;congr 1;funext n e H;cases n<;>rfl
@[congr]theorem abt{l m}{e}{k}(h:l=m):fX ps l e k=fX ps m e k:=by rw[h]
@[congr]theorem acw{x y}{k}(h:x=y):cN H x k=cN H y k:=by rw[h]
@[congr]theorem acx{id b c}{x y}{k}(h':b=c)(h:x=y):cJ id H b x k=cJ id H c y k:=by simp_all
@[congr]theorem abn{id}{l m}{k}(h:l=m):iV id l k=iV id m k:=by rw[h]
theorem PJ{e}{k}:fX [] [] e k=k e:=Ye rfl rfl
theorem KT{s}{v}{ps}{l}{e}{k}:fX (s::ps) (v::l) e k=fX ps l (jl s v e) k:=by show KU s v e (λe'=>fX ps l e' k)=_;rw[tT]
theorem U5{e}:uS [] k e H=k (.cG []) H:=Ye rfl rfl
theorem U6{s}{e}:uS [.tmp s] k e H=k (af s e) H:=by show kE s e (λv=>k v H)=_;rw[eC]
theorem U7{s s'}{e}:uS [.tmp s,.tmp s'] k e H=k (.cG [af s e,af s' e]) H:=by show kE s e (λv=>kE s' e λv'=>k (.cG [v,v']) H)=_;rw[eC,eC]
theorem KN{s s' s2}{e}:uS [.tmp s,.tmp s',.tmp s2] k e H=k (.cG [af s e,af s' e,af s2 e]) H:=by show kE s e (λv=>kE s' e λv'=>kE s2 e λv2=>k (.cG [v,v',v2]) H)=_;rw[eC,eC,eC]
end
section
variable{id:Nat}{ph:dz}{e:Env}{H:Heap}{k:K}
theorem idx_eq{i}{len}{f}:idx id i e len f=cI id (aA i e) λkd n=>if 3<=kd then(if n<len then(if n<9223372036854775808then f n else no 0)else no 0)else no 0:=by show aJ i e (λv=>cI id v λkd n=>aH (Yd 3 kd) (aH (WC n len) (aH (WC n 9223372036854775808) (f n) (no 0)) (no 0)) (no 0))=_;simp only[aq,bF,my,Dw]
theorem ac5{size}{x i}:aQ (.AH size x i) id ph e H k=mF id (aA x e) λb o len _ _=>idx id i e len λn=>k (.ptr b (o+n*size)) H:=by show aJ x e (λx=>mF id x λb o len _ _=>idx id i e len λn=>av (Yi o (Yn n size)) λo'=>k (.ptr b o') H)=_;simp only[aq,ay];rfl
theorem ac4{len size}{x i}:aQ (.ixA len size x i) id ph e H k=eH id (aA x e) λb o=>idx id i e len λn=>k (.ptr b (o+n*size)) H:=by show aJ x e (λx=>eH id x λb o=>idx id i e len λn=>av (Yi o (Yn n size)) λo'=>k (.ptr b o') H)=_;simp only[aq,ay];rfl
theorem UN{src dst c}{x}:aQ (.FC src dst 0 c x) id ph e H k=cI id (aA x e) λk1 a=>if k1=src then k (.int dst (a%c)) H else no 0:=by show aJ x e (λx=>cI id x λk1 a=>aH (YR k1 src) (av (Yx a c) λr=>k (.int dst r) H) (no 0))=_;simp only[aq,bF,po,ay];rfl
theorem OA{z}{f}:lj id e [] z f=f z:=Ye rfl rfl
theorem JS{off size}{a}{ps}{z}{f}:lj id e ((off,size,a)::ps) z f=dU id (aA a e) λl=>if l.length=size then setAt id l z off λz'=>lj id e ps z' f else no 0:=by show aJ a e (λv=>dU id v λl=>aH (YR (fU l) size) (setAt id l z off λz'=>lj id e ps z' f) (no 0))=_;simp only[aq,bF,po,kF]
theorem UL{z}{ps}:aQ (.build z ps) id ph e H k=lj id e ps z λl=>k (.agg l) H:=Ye rfl rfl
theorem Pe{len}{z}{ps}:aQ (.jY false len z ps) id ph e H k=lj id e ps z λl=>bB id l (cN H (.cells l) λb H=>k (.slice b 0 len (len+1) 0) H):=Ye rfl rfl
theorem Kt{len}{z}{ps}:aQ (.jY true len z ps) id ph e H k=lj id e ps z λl=>iV id l λln n=>cN H (.bytes ln n) λb H=>k (.slice b 0 len (len+1) 0) H:=Ye rfl rfl
theorem Zx{neg}{x y}:aQ (.Vh neg x y) id ph e H k=er id (aA x e) λl1 n1=>er id (aA y e) λl2 n2=>if l1=l2/\n1=n2 then k (.bool (!neg)) H else k (.bool neg) H:=by
 show aJ x e (λx=>er id x λl1 n1=>aJ y e λy=>er id y λl2 n2=>aH (YR l1 l2) (aH (YR n1 n2) (aH neg (k (.bool false) H) (k (.bool true) H)) (k (.bool neg) H)) (k (.bool neg) H))=_;have hn:aH neg (k (.bool false) H) (k (.bool true) H)=k (.bool (!neg)) H:=by cases neg<;>rfl
 simp only[aq,bF (c:=YR _ _),po,hn];congr 1;funext l1 n1;congr 1;funext l2 n2;by_cases h1:l1=l2<;>by_cases h2:n1=n2<;>simp[h1,h2]
theorem Zw{x y}:aQ (.Ve x y) id ph e H k=er id (aA x e) λl1 n1=>er id (aA y e) λl2 n2=>if l1+l2<9223372036854775808then k (.str (l1+l2) (n1+n2*256^l1)) H else no 0:=by show aJ x e (λx=>er id x λl1 n1=>aJ y e λy=>er id y λl2 n2=>av (Yi l1 l2) λl=>aH (WC l 9223372036854775808) (av (Yi n1 (Yt n2 (Yn 8 l1))) λn=>k (.str l n) H) (no 0))=_;simp only[aq,ay,bF,Dw,Vq];rfl
theorem eg{size b o l c s}{f}:dg id size H (.slice b o l c s) f=if l=0then f 0 []else HG id H b o (l*size) λm=>f l m:=by cases l<;>rfl
@[congr]theorem UB{size}{x y}{f}(h:x=y):dg id size H x f=dg id size H y f:=by rw[h]
theorem oq{a b}{n}:Nat.rec (motive:=λ_=>R) a (λ_ _=>b) n=if n=0then a else b:=by cases n<;>rfl
theorem dn{size}{s x}:aQ (.app false size s x) id ph e H k=dg id size H (aA x e) λn new=>bC id (aA s e) (λb o len cp sz=>if n=0then k (aA s e) H else sW id size n new b o len cp sz H k) (if n=0then k (aA s e) H else bB id new (if n<=1073741824then cN H (.cells new) λb' H=>k (.slice b' 0 n 0 size) H else no 0)):=by show aJ s e (λs=>aJ x e λx=>dg id size H x λn new=>bC id s (λb o len cp sz=>Nat.rec (k s H) (λ_ _=>sW id size n new b o len cp sz H k) n) (Nat.rec (k s H) (λ_ _=>bB id new (aH (Yd n 1073741824) (cN H (.cells new) λb' H=>k (.slice b' 0 n 0 size) H) (no 0))) n))=_;simp only[aq,oq,bF,my]
theorem mO{size n b len}{new}:sW id size n new b 0 len 0 size H k=bB id new (if len+n<=1073741824then vt id (H.get b) (λl=>if l.length=len*size then cJ id H b .dead λH=>cN H (.cells (l++new)) λb' H=>k (.slice b' 0 (len+n) 0 size) H else no 0) (λ_ _=>no 0)else no 0):=by show bB id new (av (Yi len n) λneed=>aH (Yd need 1073741824) (aH (YR size size) (aH (YR 0 0) (cR H b λbl=>vt id bl (λl=>aH (YR (fU l) (Yn len size)) (kB l new λl'=>cJ id H b .dead λH=>cN H (.cells l') λb' H=>k (.slice b' 0 need 0 size) H) (no 0)) (λ_ _=>no 0)) (no 0)) (no 0)) (no 0))=_;simp only[ay,bF,my,po,if_true,aU,kF,fK];rfl
theorem jb{size n b o len q sz}{new}(h:q<len+n):sW id size n new b o len (q+1) sz H k=bB id new (if len+n<=1073741824then fi id H b o (len*size) λl=>bB id l (cN H (.cells (l++new)) λb' H=>k (.slice b' 0 (len+n) 0 size) H)else no 0):=by
 show bB id new (av (Yi len n) λneed=>aH (Yd need 1073741824) (aH (Yd need q) (ei id H b (Yi o (Yn len size)) new λH=>k (.slice b o need (q+1) sz) H) (fi id H b o (Yn len size) λl=>bB id l (kB l new λl'=>cN H (.cells l') λb' H=>k (.slice b' 0 need 0 size) H))) (no 0))=_;have hn:¬Yi len n<=q:=by simp_all
 simp only[ay,bF,my,fK,if_neg hn];rfl
@[congr]theorem abL{size n n' b o len cp sz}{new new'}(h:n=n')(h':new=new'):sW id size n new b o len cp sz H k=sW id size n' new' b o len cp sz H k:=by simp_all
theorem abP{m a b}{f}:iE id (.add m) a b f=f ((a+b)%m):=ay _ _
theorem abV{m a b}{f}:iE id (.sub m) a b f=f ((a+(m-b))%m):=ay _ _
theorem abR{m a b}{f}:iE id (.mul m) a b f=f (a*b%m):=ay _ _
theorem aa9{a b}:(ej .eq a b=true)=(a=b):=po
theorem aeZ{a b}:(ej .ne a b=true)=¬(a=b):=by show(Bool.rec true false (YR a b)=true)=_;rw[<-po];cases YR a b<;>simp
theorem Th{o m a b}:(ej (.lt o m) a b=true)=((a+o)%m<(b+o)%m):=Dw
theorem Ft{o m a b}:(ej (.le o m) a b=true)=((a+o)%m<=(b+o)%m):=my
theorem LZ{o m a b}:(ej (.gt o m) a b=true)=((b+o)%m<(a+o)%m):=Dw
theorem Fs{o m a b}:(ej (.ge o m) a b=true)=((b+o)%m<=(a+o)%m):=my
def nn(a:Nat):Prop:=a<9223372036854775808
theorem n_(a:Nat)(h:a<9223372036854775808:=by omega):nn a:=h
theorem l_(a:Nat)(h:a<9223372036854775808:=by omega):a<9223372036854775808:=h
theorem m_(a:Nat)(h:a<18446744073709551616:=by omega):a%18446744073709551616=a:=Nat.mod_eq_of_lt h
theorem s_(a:Nat)(h:0<a:=by omega):∃q,a=q+1:=⟨a-1,by omega⟩
theorem mB{a}(h:nn a):(a+9223372036854775808)%18446744073709551616=a+9223372036854775808:=by unfold nn at h;omega
theorem afX{a b}(ha:nn a)(hb:nn b):(ej (.lt 9223372036854775808 18446744073709551616) a b=true)=(a<b):=by rw[Th,mB ha,mB hb];simp
theorem afV{a b}(ha:nn a)(hb:nn b):(ej (.le 9223372036854775808 18446744073709551616) a b=true)=(a<=b):=by rw[Ft,mB ha,mB hb];simp
theorem afd{a b}(ha:nn a)(hb:nn b):(ej (.gt 9223372036854775808 18446744073709551616) a b=true)=(b<a):=by rw[LZ,mB ha,mB hb];simp
theorem Gw{a b}(ha:nn a)(hb:nn b):(ej (.ge 9223372036854775808 18446744073709551616) a b=true)=(b<=a):=by rw[Fs,mB ha,mB hb];simp
theorem adp{a b}(h:b<=a)(ha:nn a):(a+(18446744073709551616-b))%18446744073709551616=a-b:=by unfold nn at ha;omega
theorem acP{a b}(ha:nn a)(hb:nn b):xb true 9223372036854775808 18446744073709551616 a b=max a b:=by unfold xb;rw[if_pos rfl,mB ha,mB hb];split<;>omega
theorem acU{a}(h:a<9223372036854775808):nn a:=h
theorem RQ{d}{f}:iw id none e d f=f d:=Ye rfl rfl
theorem RR{a}{d}{f}:iw id (some a) e d f=cI id (aA a e) λkd n=>if 3<=kd then(if n<9223372036854775808then f n else no 0)else no 0:=by show aJ a e (λv=>cI id v λkd n=>aH (Yd 3 kd) (aH (WC n 9223372036854775808) (f n) (no 0)) (no 0))=_;simp only[aq,bF,my,Dw]
def acq(p:Nat×V):V×V:=(.int 3 p.1,p.2)
def cZ(D:List (Nat×V)):List (V×V):=D.map acq
def Y5(D:List (Nat×V))(a:Nat):Option V:=(D.find? λp=>p.1==a).map (·.2)
def Ch:List (Nat×V)->Nat->V->List (Nat×V)|[],a,v=>[(a,v)]|p::D,a,v=>if p.1=a then(p.1,v)::D else p::Ch D a v
def BY(o:Option V)(f:V->R)(z:R):R:=match o with|some v=>f v|none=>z
@[congr]theorem abl{o o'}{f}{z}(h:o=o'):BY o f z=BY o' f z:=by rw[h]
theorem Ky{v}{f}{z}:BY (some v) f z=f v:=Ye rfl rfl
theorem Kx{f}{z}:BY none f z=z:=Ye rfl rfl
theorem BQ:∀{D}{a}{f}{z},vV id false (cZ D) (.int 3 a) f z=BY (Y5 D a) f z
 |[],a,f,z=>rfl|(b,v)::D,a,f,z=>by
  show aH (YR a b) (f v) (vV id false (cZ D) (.int 3 a) f z)=_;rw[bF,BQ];by_cases h:a=b;.subst h;simp[Y5,BY]
  .have hb:(b==a)=false:=by simp;omega
   simp[Y5,h,hb]
theorem zO:∀{D}{a}{y}{f},zN id false (cZ D) (.int 3 a) y f=f (cZ (Ch D a y))
 |[],a,y,f=>rfl|(b,v)::D,a,y,f=>by
  show aH (YR a b) (f ((.int 3 b,y)::cZ D)) (zN id false (cZ D) (.int 3 a) y λr=>f ((.int 3 b,v)::r))=_;rw[bF,zO];by_cases h:a=b;.subst h;simp[Ch,cZ,acq]
  .have hb:¬b=a:=λh'=>h h'.symm;simp[Ch,cZ,acq,h,hb]
theorem Zp{zero}{ok}{m x}{ks}:aQ (.look ks zero ok m x) id ph e H k=rG id (aA m e) (λb=>kX id (H.get b) λes=>vV id ks es (aA x e) (λv=>if ok=true then k (.cG [v,.bool true]) H else k v H) (if ok=true then k (.cG [zero,.bool false]) H else k zero H)) (if ok=true then k (.cG [zero,.bool false]) H else k zero H):=by show aJ m e (λm=>aJ x e λx=>rG id m (λb=>cR H b λbl=>kX id bl λes=>vV id ks es x (λv=>aH ok (k (.cG [v,.bool true]) H) (k v H)) (aH ok (k (.cG [zero,.bool false]) H) (k zero H))) (aH ok (k (.cG [zero,.bool false]) H) (k zero H)))=_;simp only[aq,aU,bF]
theorem Zr{ks}{m x y}:aQ (.Ur ks m x y) id ph e H k=ve id (aA m e) λb=>kX id (H.get b) λes=>isKey id (aA x e) (zN id ks es (aA x e) (aA y e) λes'=>cJ id H b (.map es') λH=>k (.cG []) H):=by show aJ m e (λm=>aJ x e λx=>aJ y e λy=>ve id m λb=>cR H b λbl=>kX id bl λes=>isKey id x (zN id ks es x y λes'=>cJ id H b (.map es') λH=>k (.cG []) H))=_;simp only[aq,aU]
@[congr]theorem abg{ks}{es es'}{x x'}{f}{z}(h:es=es')(h':x=x'):vV id ks es x f z=vV id ks es' x' f z:=by simp_all
@[congr]theorem adk{ks}{es es'}{x x' y y'}{f}(h:es=es')(h':x=x')(h2:y=y'):zN id ks es x y f=zN id ks es' x' y' f:=by simp_all
theorem Pm{f}:iV id [] f=f 0 0:=Ye rfl rfl
theorem Kz{x}{l}{f}:iV id (.int 4 x::l) f=iV id l λlen n=>f (len+1) (x+256*n):=by show aH (YR 4 4) (iV id l λlen n=>av (Yi x (Yn 256 n)) λn'=>av (WQ len) λlen'=>f len' n') (no 0)=_;simp only[ay];rfl
theorem Uo{b off n}{f}:nv id H b off n f=vt id (H.get b) (λl=>fR id l off λr=>takeN id r n λq=>iV id q λ_ x=>f x) λlen x=>if off+n<=len then f ((x>>>(8*off))%256^n)else no 0:=by unfold nv;rw[aU];congr 1;funext len x;rw[bF];simp only[my,ay];rfl
theorem Ht{z}{l c}:aQ (.mkSlice true z l c) id ph e H k=cI id (aA l e) λkl l=>cI id (aA c e) λkc c=>if 3<=kl then(if 3<=kc then(if l<=c then(if c<=16777216then cN H (.bytes c 0) λb H=>k (.slice b 0 l (c+1) 0) H else no 0)else no 0)else no 0)else no 0:=by show aJ l e (λl=>cI id l λkl l=>aJ c e λc=>cI id c λkc c=>aH (Yd 3 kl) (aH (Yd 3 kc) (aH (Yd l c) (aH (Yd c 16777216) (cN H (.bytes c 0) λb H=>av (WQ c) λc1=>k (.slice b 0 l c1 0) H) (no 0)) (no 0)) (no 0)) (no 0))=_;simp only[aq,bF,my,ay]
theorem Ku{x}:aQ (.L2 x) id ph e H k=bC id (aA x e) (λb o l _ _=>nv id H b o l λn=>k (.str l n) H) (k (.str 0 0) H):=by show aJ x e (λx=>bC id x (λb o l _ _=>nv id H b o l λn=>k (.str l n) H) (k (.str 0 0) H))=_;rw[aq]
theorem Kv{x}:aQ (.L3 x) id ph e H k=er id (aA x e) λl n=>if l<=16777216then cN H (.bytes l n) λb H=>k (.slice b 0 l 0 1) H else no 0:=by show aJ x e (λx=>er id x λl n=>aH (Yd l 16777216) (cN H (.bytes l n) λb H=>k (.slice b 0 l 0 1) H) (no 0))=_;simp only[aq,bF,my]
theorem Zy{size}{x}{lo hi}:aQ (.slV size x lo hi none) id ph e H k=bC id (aA x e) (λb o len cp sz=>iw id lo e 0 λl=>iw id hi e len λh=>if l<=h then(if cp=0then(if h<=len then(if sz=size then k (.slice b (o+l*size) (h-l) 0 sz) H else no 0)else no 0)else(if h<=cp-1then(if cp-1=l then k (.slice b o (h-l) 1 0) H else k (.slice b (o+l*size) (h-l) (cp-1-l+1) 0) H)else no 0))else no 0) (iw id lo e 0 λl=>iw id hi e 0 λh=>if l=0then(if h=0then k .aE H else no 0)else no 0):=by show aJ x e (λx=>bC id x (λb o len cp sz=>iw id lo e 0 λl=>iw id hi e len λh=>aH (Yd l h) (av (QO h l) λd=>(Nat.rec (aH (Yd h len) (aH (YR sz size) (av (Yi o (Yn l size)) λo'=>k (.slice b o' d 0 sz) H) (no 0)) (no 0)) (λq _=>aH (Yd h q) (aH (YR q l) (k (.slice b o d 1 0) H) (av (Yi o (Yn l size)) λo'=>av (WQ (QO q l)) λc'=>k (.slice b o' d c' 0) H)) (no 0)) cp)) (no 0)) (iw id lo e 0 λl=>iw id hi e 0 λh=>aH (YR l 0) (aH (YR h 0) (aH (YR 0 0) (k .aE H) (no 0)) (no 0)) (no 0)))=_;simp only[aq,ay,bF,my,po,if_true];congr 1;funext b o len cp sz;cases cp with|zero=>rfl|succ q=>rfl
theorem Zz{size}{x m}{lo hi}:aQ (.slV size x lo hi (some m)) id ph e H k=bC id (aA x e) (λb o len cp sz=>iw id lo e 0 λl=>iw id hi e len λh=>if l<=h then(iw id (some m) e 0 λm=>if h<=m then(if m<=(if cp=0then len else cp-1)then(if m=l then k (.slice b o (h-l) 1 0) H else k (.slice b (o+l*size) (h-l) (m-l+1) 0) H)else no 0)else no 0)else no 0) (iw id lo e 0 λl=>iw id hi e 0 λh=>iw id (some m) e 0 λm=>if l=0then(if h=0then(if m=0then k .aE H else no 0)else no 0)else no 0):=by
 show aJ x e (λx=>bC id x (λb o len cp sz=>iw id lo e 0 λl=>iw id hi e len λh=>aH (Yd l h) (av (QO h l) λd=>iw id (some m) e 0 λm=>aH (Yd h m) (aH (Yd m (Nat.rec len (λq _=>q) cp)) (aH (YR m l) (k (.slice b o d 1 0) H) (av (Yi o (Yn l size)) λo'=>av (WQ (QO m l)) λc'=>k (.slice b o' d c' 0) H)) (no 0)) (no 0)) (no 0)) (iw id lo e 0 λl=>iw id hi e 0 λh=>iw id (some m) e 0 λm=>aH (YR l 0) (aH (YR h 0) (aH (YR m 0) (k .aE H) (no 0)) (no 0)) (no 0)))=_;have hc:∀(cp len),(Nat.rec len (λq _=>q) cp:Nat)=if cp=0then len else cp-1:=λcp len=>by cases cp<;>rfl
 simp only[aq,ay,bF,my,po,hc];rfl
end
section
variable{cp:RC->au}{t:Nat->Option du}{fuel d:Nat}{H:Heap}{k:K}{args caps:List V}{f F:Nat}{g:List V->Heap->K->R}
theorem mS(ht:t F=some (.nat g))(hf:f%2=0)(hF:f/2=F):aj (aS cp t fuel (d+1)) (.func f caps) args H k=g (args++caps) H k:=by show Nat.rec (motive:=λ_=>R) (kB args caps λargs=>JQ t fuel (aS cp t fuel d) (Wo f 2) args H k) (λ_ _=>kB caps args λargs=>JQ t fuel (aS cp t fuel d) (Wo f 2) args H k) (Yx f 2)=_;have h1:Yx f 2=0:=hf;have h2:Wo f 2=F:=hF;rw[h1,h2];rw[fK];show av F (λf=>Option.rec (no (100+f)) (λfn=>XX fn fuel (aS cp t fuel d) (args++caps) H k) (t f))=_;rw[ay,ht];rfl
end
def KH(x off ml mx:Nat):Nat:=x%256^off+(mx+(x>>>(8*(off+ml)))*256^ml)*256^off
section
variable{id:Nat}{ph:dz}{e:Env}{H:Heap}{k:K}
theorem Vy{b off}{m}{k}:ei id H b off m k=vt id (H.get b) (λl=>bB id m (setAt id m l off λl'=>cJ id H b (.cells l') k)) λlen x=>iV id m λml mx=>if off+ml<=len then cJ id H b (.bytes len (KH x off ml mx)) k else no 0:=by
 rw[K1];congr 1;funext len x;congr 1;funext ml mx;rw[bF];simp only[my,ay];have h:(Yi (Yx x (Nat.pow 256 off)) (Yt (Yi mx (Yt (WD x (Yn 8 (Yi off ml))) (Yn 8 ml))) (Yn 8 off)):Nat)=KH x off ml mx:=by rw[Vq,Vq];rfl
 simp_all
theorem ac8{n size}{x}{lo hi mx}:aQ (.slA n size x lo hi mx) id ph e H k=eH id (aA x e) λb o=>iw id mx e n λm=>iw id hi e n λh=>iw id lo e 0 λl=>if l<=h then(if h<=m then(if m<=n then(if m=l then k (.slice b o (h-l) 1 0) H else k (.slice b (o+l*size) (h-l) (m-l+1) 0) H)else no 0)else no 0)else no 0:=by show aJ x e (λx=>eH id x λb o=>iw id mx e n λm=>iw id hi e n λh=>iw id lo e 0 λl=>aH (Yd l h) (aH (Yd h m) (aH (Yd m n) (av (QO h l) λd=>aH (YR m l) (k (.slice b o d 1 0) H) (av (Yi o (Yn l size)) λo'=>av (WQ (QO m l)) λc'=>k (.slice b o' d c' 0) H)) (no 0)) (no 0)) (no 0))=_;simp only[aq,ay,bF,my,po];rfl
theorem abU{half bits a b}{f}:iE id (.shr half bits) a b f=if a<half then(if b<=bits then f (a>>>b)else(if b<9223372036854775808then f 0 else no 0))else no 0:=by show aH (WC a half) (aH (Yd b bits) (av (WD a b) f) (aH (WC b 9223372036854775808) (f 0) (no 0))) (no 0)=_;simp only[ay,bF,my,Dw];rfl
theorem abT{m bits a b}{f}:iE id (.shl m bits) a b f=if b<=bits then f ((a<<<b)%m)else(if b<9223372036854775808then f 0 else no 0):=by show aH (Yd b bits) (av (Yx (Yt a b) m) f) (aH (WC b 9223372036854775808) (f 0) (no 0))=_;simp only[ay,bF,my,Dw];rfl
theorem abQ{a b}{f}:iE id .bor a b f=f (a|||b):=ay _ _
end
def tv(l:List UInt8):V:=.str l.length (enc l)
def rX:au->Option (RC×RC)
 |.seq a b=>match rX a with|some r=>some r|none=>rX b
 |.cond _ a b=>match rX a with|some r=>some r|none=>rX b
 |.block _ a=>rX a|.loop a=>rX a|.iJ _ _ a b=>some (a,b)|.DJ _ _ a b=>some (a,b)|_=>none
def ZN(o:Option du):RC×RC:=match o with|some (.code _ _ c)=>(rX c).getD (⟨0,0,.ret⟩,⟨0,0,.ret⟩)|_=>(⟨0,0,.ret⟩,⟨0,0,.ret⟩)
section
variable{id:Nat}{ph:dz}{e:Env}{H:Heap}{k:K}{fuel:Nat}{kn:KE}{kx:Nat->KE}
theorem yg{g}{ps}{asL bo}{f}{caps}(hw:H.wf)(hg:aA g e=.func f caps)(hf:f%2=0){G}{v}(hcall:∀k:K,aj ph (.func f caps) [.rH (H.n+1)] ((H.new .mark).new (.loop 0 0 e ps asL bo)) k=k v G){e'}{ps'}{as' bo'}(hG:G.get (H.n+1)=.loop 0 0 e' ps' as' bo')(hGw:G.wf)(hGn:H.n+1<G.n):gH (.iJ g ps asL bo) fuel ph e H kn kx=kn e (G.put (H.n+1) (.loop 3 0 e' ps' as' bo')):=by show aJ g e (λg=>Ab 0 g λf caps=>Nat.rec (cN H .mark λ_ H=>cN H (.loop 0 0 e ps asL bo) λb H=>ph (.func f caps) [.rH b] H λ_ H=>cR H b λbl=>eA bl λst j e' ps' as' bo'=>Nat.rec (cJ 0 H b (.loop 3 j e' ps' as' bo') λH=>Nat.rec (kn e H) (λm _=>kx m e H) j) (λs _=>Nat.rec (no 10) (λ_ _=>cJ 0 H b (.loop 3 j e' ps' as' bo') λH=>Nat.rec (kn e H) (λm _=>kx m e H) j) s) st) (λ_ _=>no 14) (Yx f 2))=_;rw[aq,hg];show Nat.rec (motive:=λ_=>R) _ _ (Yx f 2)=_;have hf':Yx f 2=0:=hf;rw[hf'];rw[cO hw,cO (by rw[Heap.aY];omega),Heap.aK];refine(hcall _).trans ?_;rw[aU,hG];show cJ 0 G (H.n+1) (.loop 3 0 e' ps' as' bo') (λH=>kn e H)=_;rw[ee hGw hGn]
theorem Oz{cp}{b}{args}{e0 e1 e2}{ps}{asL bo}{H2 H3}(hb:H.get b=.loop 0 0 e0 ps asL bo)(hps:∀f:Env->R,fX ps args e0 f=f e1)(has:∀(kn)(kx),gH (cp asL) fuel ph e1 H kn kx=kn e2 H2)(h2:H2.get b=.loop 0 0 e0 ps asL bo)(hw2:H2.wf)(hn2:b<H2.n)(hbo:∀(kn)(kx),∃e3,gH (cp bo) fuel ph e2 (H2.put b (.loop 1 0 e0 ps asL bo)) kn kx=kn e3 H3)(h3:H3.get b=.loop 1 0 e0 ps asL bo)(hw3:H3.wf)(hn3:b<H3.n):W8 cp fuel ph b args H k=k (.bool true) (H3.put b (.loop 0 0 e0 ps asL bo)):=by unfold W8;rw[aU,hb];show fX ps args e0 _=_;rw[hps,has,aU,h2];show cJ 0 H2 b (.loop 1 0 e0 ps asL bo) (λH=>gH (cp bo) fuel ph e2 H (λ_ H=>cR H b λbl=>eA bl λ_ _ e' ps' as' bo'=>cJ 0 H b (.loop 0 0 e' ps' as' bo') λH=>k (.bool true) H) λn _ H=>cR H b λbl=>eA bl λ_ _ e' ps' as' bo'=>cJ 0 H b (.loop 2 (WQ n) e' ps' as' bo') λH=>k (.bool false) H)=_;rw[ee hw2 hn2];obtain⟨e3,he⟩:=hbo (λ_ H=>cR H b λbl=>eA bl λ_ _ e' ps' as' bo'=>cJ 0 H b (.loop 0 0 e' ps' as' bo') λH=>k (.bool true) H) (λn _ H=>cR H b λbl=>eA bl λ_ _ e' ps' as' bo'=>cJ 0 H b (.loop 2 (WQ n) e' ps' as' bo') λH=>k (.bool false) H);rw[he,aU,h3];show cJ 0 H3 b (.loop 0 0 e0 ps asL bo) (λH=>k (.bool true) H)=_;rw[ee hw3 hn3]
theorem qE{cp}{t}{d b}{args}:aj (aS cp t fuel (d+1)) (.rH b) args H k=W8 cp fuel (aS cp t fuel d) b args H k:=Ye rfl rfl
theorem tC{ops}:gH (.X1 ops) fuel ph e H kn kx=bI ph H.n ops e H [] [] kn:=by rfl
variable{n0:Nat}{l:List wB}{fl st:List (Nat×Nat)}{dd:Option Slot}{i bf:Nat}{ad:Arg}{op:lU}
theorem nV:bI ph n0 [] e H fl st kn=kn e H:=Ye rfl rfl
theorem fS:bI ph n0 (⟨id,dd,none,0,i,bf,ad,op⟩::l) e H fl st kn=aQ op id ph e H λv H'=>bI ph n0 l (dH dd v e) H' fl st kn:=by show aQ op id ph e H (λv H'=>bZ dd v e λe'=>bI ph n0 l e' H' fl st kn)=_;simp only[cj]
theorem T1:bI ph n0 (⟨id,dd,none,1,i,bf,ad,op⟩::l) e H fl st kn=aQ op id ph e H.mark λv H'=>if H.n<=H'.bD then bI ph n0 l (dH dd v e) (H'.dS H.bD) fl st kn else no 0:=by cases H with|mk n bD t=>show aQ op id ph e (.mk n n t) (λv H'=>Heap.rec (λn' wlo' t'=>aH (Yd n wlo') (bZ dd v e λe'=>bI ph n0 l e' (.mk n' bD t') fl st kn) (no 0)) H')=aQ op id ph (e) (.mk n n t) _;congr 1;funext v H';cases H' with|mk n' wlo' t'=>show aH (Yd n wlo') (bZ dd v e λe'=>bI ph n0 l e' (.mk n' bD t') fl st kn) (no 0)=_;rw[bF,cj];simp only[my];rfl
theorem iZ{id bf b}{k}:dI id bf b [] k=k:=Ye rfl rfl
theorem vr{id bf b i' b'}{l}{k}:dI id bf b ((i',b')::l) k=if Nat.testBit bf i'=true then dI id bf b l k else if b=b' then no 0 else dI id bf b l k:=by show aH (Nat.testBit bf i') (dI id bf b l k) (aH (YR b b') (no 0) (dI id bf b l k))=_;rw[bF,bF];simp
theorem tD{b o}(hb:aA ad e=.ptr b o)(hlt:b<n0){v}(hop:∀k:K,aQ op id ph e H k=k v H)(hst:∀k:R,dI id bf b st k=k):bI ph n0 (⟨id,dd,none,2,i,bf,ad,op⟩::l) e H fl st kn=bI ph n0 l (dH dd v e) H ((i,b)::fl) st kn:=by show aJ ad e (λa=>mM id a λob=>Option.rec (no 0) (λb=>aH (WC b n0) (dI id bf b st (aQ op id ph e H λv H'=>bZ dd v e λe'=>bI ph n0 l e' H ((i,b)::fl) st kn)) (no 0)) ob)=_;rw[aq,hb];show aH (WC b n0) (dI id bf b st (aQ op id ph e H λv H'=>bZ dd v e λe'=>bI ph n0 l e' H ((i,b)::fl) st kn)) (no 0)=_;rw[bF,if_pos (by simp_all),hst,hop,cj]
theorem T2{b o}(hb:aA ad e=.ptr b o){v}{H'}(hop:∀k:K,aQ op id ph e H k=k v H')(hfl:∀k:R,dI id bf b fl k=k):bI ph n0 (⟨id,dd,none,3,i,bf,ad,op⟩::l) e H fl st kn=bI ph n0 l (dH dd v e) H' fl ((i,b)::st) kn:=by show aJ ad e (λa=>mM id a λob=>Option.rec (aQ op id ph e H λv H'=>bZ dd v e λe'=>bI ph n0 l e' H' fl st kn) (λb=>dI id bf b fl (aQ op id ph e H λv H'=>bZ dd v e λe'=>bI ph n0 l e' H' fl ((i,b)::st) kn)) ob)=_;rw[aq,hb];show dI id bf b fl (aQ op id ph e H λv H'=>bZ dd v e λe'=>bI ph n0 l e' H' fl ((i,b)::st) kn)=_;rw[hfl,hop,cj]
theorem Zq{ks}{m x}:aQ (.acQ ks m x) id ph e H k=ve id (aA m e) λb=>kX id (H.get b) λes=>Oi id ks es (aA x e) λes'=>cJ id H b (.map es') λH=>k (.cG []) H:=by show aJ m e (λm=>aJ x e λx=>ve id m λb=>cR H b λbl=>kX id bl λes=>Oi id ks es x λes'=>cJ id H b (.map es') λH=>k (.cG []) H)=_;simp only[aq,aU]
def del:List (Nat×(Nat×Nat))->Nat->List (Nat×(Nat×Nat))|[],_=>[]|p::D,a=>if a=p.1then D else p::del D a
end
section
variable{ph:dz}{e:Env}{H:Heap}{kn:KE}{kx:Nat->KE}{n0 id:Nat}{l:List wB}{hs:List Heap}{bs:List Nat}{dd:Option Slot}{i bf fuel:Nat}{ad:Arg}{op:lU}
theorem FW{ops}:gH (.adI ops) fuel ph e H kn kx=dD ph H.n ops e H [] [] kn:=by rfl
theorem yk:dD ph n0 [] e H hs bs kn=kn e H:=Ye rfl rfl
theorem gI:dD ph n0 (⟨id,dd,none,0,i,bf,ad,op⟩::l) e H hs bs kn=aQ op id ph e H λv H'=>dD ph n0 l (dH dd v e) H' hs bs kn:=by show aQ op id ph e H (λv H'=>bZ dd v e λe'=>dD ph n0 l e' H' hs bs kn)=_;simp only[cj]
theorem tE{b o}(hb:aA ad e=.ptr b o)(hlt:b<n0){v}(hop:∀k:K,aQ op id ph e H k=k v H)(hsm:∀k:R,qp b (H.get b) hs k=k):dD ph n0 (⟨id,dd,none,5,i,bf,ad,op⟩::l) e H hs bs kn=dD ph n0 l (dH dd v e) H hs (b::bs) kn:=by show aJ ad e (λa=>mM id a λob=>Option.rec (no 0) (λb=>aH (WC b n0) (cR H b λx=>qp b x hs (aQ op id ph e H λv _=>bZ dd v e λe'=>dD ph n0 l e' H hs (b::bs) kn)) (no 0)) ob)=_;rw[aq,hb];show aH (WC b n0) (cR H b λx=>qp b x hs (aQ op id ph e H λv _=>bZ dd v e λe'=>dD ph n0 l e' H hs (b::bs) kn)) (no 0)=_;rw[bF,if_pos (show WC b n0=true from by simp_all),aU,hsm,hop,cj]
theorem jN{v}{H'}(hop:∀k:K,aQ op id ph e H k=k v H')(hsm:∀k:R,rE H H' bs k=k):dD ph n0 (⟨id,dd,none,6,i,bf,ad,op⟩::l) e H hs bs kn=dD ph n0 l (dH dd v e) H' (H::hs) bs kn:=by show aQ op id ph e H (λv H'=>rE H H' bs (bZ dd v e λe'=>dD ph n0 l e' H' (H::hs) bs kn))=_;rw[hop,hsm,cj]
def Xh(x:eN):Prop:=∃l:List V,x=.cells l/\∀v∈l,∃k n,v=.int k n
theorem wk:∀{l}{k},(∀v∈l,∃k n,v=.int k n)->si l l k=k|[],k,_=>rfl|v::l,k,h=>by obtain⟨q,n,rfl⟩:=h v (YM ..);show aH (YR q q) (aH (YR n n) (si l l k) (no 0)) (no 0)=_;rw[bF,if_pos (show YR q q=true from by simp),bF,if_pos (show YR n n=true from by simp)];exact wk λw hw=>h w (YI _ hw)
theorem zH{x}{k}(h:Xh x):wj x x k=k:=by obtain⟨l,rfl,h⟩:=h;exact wk h
theorem lI{b}{x}(h:Xh x):∀{hs}{k},(∀G∈hs,G.get b=x)->qp b x hs k=k|[],k,_=>rfl|G::hs,k,hg=>by show cR G b (λy=>wj y x (qp b x hs k))=k;rw[aU,hg G (YM ..),zH h];exact lI h λG' h'=>hg G' (YI _ h')
theorem fy{H H'}:∀{bs}{k},(∀b∈bs,Xh (H.get b)/\H'.get b=H.get b)->rE H H' bs k=k|[],k,_=>rfl|b::bs,k,h=>by obtain⟨h1,h2⟩:=h b (YM ..);show cR H b (λx=>cR H' b λy=>wj y x (rE H H' bs k))=k;rw[aU,aU,h2,zH h1];exact fy λc hc=>h c (YI _ hc)
end
attribute[go_sem ↓]KT PJ T0 XW XU TX TW TZ Ox TY XV JO JP Oy FX FY JM vK CZ ac7 Zv Zt Zs UR ac1 UP UQ Pf Pg Zu ac0 ac2 ac3 Zo Zi Zj Zk Zh ac6 Zg UM Zn Zl Zm afZ ac5 ac4 UN UL Pe Kt Zx Zw Zp Zr OA JS Mr idx_eq Pm Kz Uo Ht Ku Kv Zy Zz RQ RR abP abV abR Up qc ada DM Py Px jm B5 Vy ac8 abU abT abQ mO jb cO ee Ac K6 VV VU Eh cE eI VS Q3 VQ VW Q4 K8 Iy Lc Lb Eg IA K9 Iz K7 BL J6 BN OO GI J8 ON J7 OM Kl O7 Ko Hp Kp O4 Km acD acC acA acz gi Nx RM lW Jc UF Hq fA eW PI tS eg BQ zO Ky Kx U5 U6 U7 KN
attribute[go_sem]List.append_nil List.nil_append List.cons_append aa9 aeZ afX afV afd Gw adp acP acU KG KF ZK ZJ fH Slot.mk.injEq and_true and_false true_and false_and not_true_eq_false not_false_eq_true if_true if_false Nat.zero_shiftRight Nat.zero_mod Nat.add_zero Nat.zero_add Nat.zero_mul Nat.mul_one Nat.one_mul Ya YC Bool.not_true Bool.not_false Bool.false_eq_true Bool.true_eq_false eq_self YH YS List.length_map List.length_append List.set_cons_succ List.set_cons_zero List.map_cons List.map_nil List.take_succ_cons List.take_zero List.take_nil List.drop_succ_cons List.drop_zero List.drop_nil Heap.aC Heap.aD Heap.bu Heap.aY Heap.aR Heap.aK Heap.jz Heap.Ux Heap.IG Heap.Gy Heap.eK Heap.Ee Heap.Iw Heap.Ix Heap.oH
attribute[go_sem]reduceCtorEq ZA ZB ZC ZD ZF ZG ZH
attribute[go_sem ↓]reduceIte
open Go.RowKit
open Classical
noncomputable def tX(N:Nat)(v:Value):V:=match nR v with|some u=>u|none=>match v with|.slice (some a) l cap=>if l<=cap then(if a.spot=none/\a.block<N then .slice a.block a.off l (cap+1) 0 else if cap=0then .slice N a.off 0 1 0 else .cG [])else .cG []|.pointer (some a)=>if a.spot=none/\a.block<N then .ptr a.block a.off else .cG []|.map (some b)=>if b<N then .map b else .cG []|_=>.cG []
noncomputable def tP(N:Nat)(c:Array Value)(fr:Nat×Nat):List V:=c.toList.mapIdx λi v=>if fr.1<=i/\i<fr.2then .cG []else tX N v
noncomputable def Rg(w:World)(b:Nat):eN:=if GB b then .dead else match w.heap[b]?with|some (.cells c _ fr)=>.view (tP w.heap.size c fr)|_=>.dead
noncomputable def pD(w:World):Nat->Heap|0=>H0|n+1=>(pD w n).new (Rg w n)
noncomputable def eY(w:World):Heap:=(pD w (w.heap.size+1)).mark
noncomputable def zD(w:World)(b:Nat):Option Nat:=if(Rg w b).alive then some b else none
theorem mN(w):∀n,(pD w n).wf/\(pD w n).n=n/\∀b,(pD w n).get b=if b<n then Rg w b else .dead
 |0=>⟨λb h=>absurd h (Nat.not_lt_zero b),rfl,λb=>by rfl⟩|n+1=>by
  obtain⟨h1,h2,h3⟩:=mN w n;refine⟨by unfold pD;rw[Heap.aY];omega,by unfold pD;rw[Heap.aK,h2],λb=>?_⟩;unfold pD;rw[Heap.aD h1,h2,h3];by_cases hb:b=n;.simp_all
  .rw[if_neg hb];by_cases hb2:b<n;.rw[if_pos hb2,if_pos (by omega)]
   .rw[if_neg hb2,if_neg (by omega)]
theorem RH(w):(eY w).wf:=by unfold eY;rw[Heap.eK];exact(mN w _).1
theorem lV(w):(eY w).n=w.heap.size+1:=by unfold eY;rw[Heap.Ux];exact(mN w _).2.1
theorem A0(w):(eY w).bD=w.heap.size+1:=by unfold eY;rw[Heap.IG];exact(mN w _).2.1
theorem Dd{w}{b}(h:w.heap.size<=b):Rg w b=.dead:=by unfold Rg;simp_all
theorem kL(w)(b):(eY w).get b=Rg w b:=by
 unfold eY;rw[Heap.Gy,(mN w _).2.2];split;.rfl
 .rw[Dd (by omega)]
theorem uD{w}{b}(h:(Rg w b).alive):(∃c e fr,w.heap[b]?=some (.cells c e fr)/\Rg w b=.view (tP w.heap.size c fr))/\¬GB b:=by
 unfold Rg at h⊢;by_cases hg:GB b;.rw[if_pos hg]at h;exact h.elim
 .rw[if_neg hg]at h⊢;refine⟨?_,hg⟩;split at h;.rename_i c e fr hc;exact⟨c,e,fr,hc,rfl⟩
  .exact h.elim
theorem vh(w)(v)(h:(tX w.heap.size v).one=true):VR (mu (zD w) (eY w) w) (tX w.heap.size v) v:=by have hb:∀b,b<w.heap.size->(mu (zD w) (eY w) w).b b b:=λb hb=>⟨by rw[lV];omega,λha=>by rw[kL]at ha;exact if_pos ha⟩;unfold tX at h⊢;cases hc:nR v with|some u=>exact(rQ hc).1|none=>
  rw[hc]at h;simp only at h⊢;split at h
  .rename_i a l cap;split at h
   .rename_i hl;rw[if_pos hl];split at h;.rename_i hs;rw[if_pos hs];obtain⟨b,off,spot⟩:=a;obtain⟨rfl,hbs⟩:=hs;exact⟨b,cap,off,none,rfl,hb b hbs,hl,⟨λq hq=>by omega,λh=>by omega⟩,Or.inl ⟨rfl,rfl⟩⟩
    .rename_i hs;rw[if_neg hs];split at h
     .rename_i h0;subst h0;obtain rfl:l=0:=by omega
      exact⟨a.block,0,a.off,a.spot,rfl,⟨by rw[lV];omega,λha=>by rw[kL,Dd (YC _)]at ha;exact ha.elim⟩,YC _,⟨λq hq=>by omega,λh=>by omega⟩,YD rfl⟩
     .cases h
   .cases h
  .rename_i a;split at h;.rename_i hs;rw[if_pos hs];obtain⟨b,off,spot⟩:=a;simp only[VR];simp_all
   .cases h
  .split at h;.rename_i hs;rw[if_pos hs];simp only[VR];simp_all
   .cases h
  .cases h
theorem HY{N}{c}{fr}{i}{cv}(h:c[i]?=some cv)(hf:¬(fr.1<=i/\i<fr.2)):(tP N c fr)[i]?=some (tX N cv):=by unfold tP;rw[YN1,Ys,h,Option.map_some,if_neg hf]
section
variable{P:Program}{base:Nat}{w0 w w':World}{rho:Nat->Option Nat}{H H':Heap}
theorem PR.late(h:PR P base w0 rho H w)(hbl:Below w.heap.size w w'){bl:eN}{o:Obj}{g:Nat}(hn:H'.n=H.n+1)(hw:H'.bD=H.bD)(hg:H'.get H.n=bl)(ho:∀j,j≠H.n->H'.get j=H.get j)(ha:bl.alive)(hgs:w.heap.size<=g)(hnew:w'.heap[g]?=some o)(hb:BR P (mu rho H w) bl o):PR P base w0 (λb=>if b=H.n then some g else rho b) H' w'/\Ext rho H w (λb=>if b=H.n then some g else rho b) H' w':=by
 have hlt:=h.lt;have hgl:g<w'.heap.size:=(YO.1 hnew).1;have hE:Ext rho H w (λb=>if b=H.n then some g else rho b) H' w':=by
  refine⟨by omega,by omega,hbl.size,λb hb _=>⟨ho b (by omega),by simp[Qn hb]⟩,λb c hb hr=>?_,λb c hr _=>?_,λb hb hal=>?_,λb c hb hr=>?_,λc hc _=>hbl.block c hc,λb hm=>?_,λc cs e fr hc=>⟨cs,e,fr,(hbl.block c (YO.1 hc).1).trans hc,rfl⟩,λc r hc=>⟨r,(hbl.block c (YO.1 hc).1).trans hc⟩⟩;.simpa[Qn hb]using hr
  .have:=hlt b c hr;simp[Qn this,hr]
  .rwa[ho b (by omega)]at hal
  .by_cases hb':b=H.n;.simp[hb']at hr;omega
   .simp[hb']at hr;have:=hlt b c hr;omega
  .have hb':b≠H.n:=λe=>by subst e;rw[h.out H.n (YC _)]at hm;cases hm
   exact⟨(ho b hb').trans hm,by simp[hb'],λc hc=>hbl.block c (h.j8 b c hc).2.2.1⟩
 refine⟨⟨h.below.trans (hbl.mono h.de),Yr h.de hbl.size,by have:=h.wn;omega,λb c hr=>?_,λb b' c hr hr'=>?_,λb c hr=>?_,λb hb'=>?_,h.gl.step hE⟩,hE⟩
 .by_cases hb':b=H.n;.subst hb';simp at hr;subst hr;exact⟨by omega,Yr h.de hgs,hgl,by rw[hg];exact ha⟩
  .simp[hb']at hr;obtain⟨h1,h2,h3,h4⟩:=h.j8 b c hr;exact⟨by omega,h2,Nat.lt_of_lt_of_le h3 hbl.size,by rw[ho b hb'];exact h4⟩
 .by_cases h1:b=H.n<;>by_cases h2:b'=H.n<;>simp[h1,h2]at hr hr';.omega
  .have:=(h.j8 b' c hr').2.2.1;omega
  .have:=(h.j8 b c hr).2.2.1;omega
  .exact h.inj b b' c hr hr'
 .by_cases hb':b=H.n;.subst hb';simp at hr;subst hr;exact⟨o,hnew,by rw[hg];exact hb.mono hE.mu⟩
  .simp[hb']at hr;obtain⟨o',h1,h2⟩:=h.cQ b c hr;refine⟨o',(hbl.block c (h.j8 b c hr).2.2.1).trans h1,?_⟩;rw[ho b hb'];exact h2.mono hE.mu
 .rw[ho b (by omega)];exact h.out b (by omega)
end
section
variable{P:Program}
theorem PR.eY(w:World)(hg:GQ w/\∀c,GB c->c<w.heap.size:=by exact Gno):PR P 0 w (zD w) (Ev.eY w) w:=by
 have hr:∀b c,zD w b=some c->b=c/\(Rg w b).alive:=λb c h=>by
  unfold zD at h;split at h;.rename_i ha;cases h;exact⟨rfl,ha⟩
  .cases h
 refine⟨Below.refl _ _,Ya _,by rw[A0,lV];exact YC _,λb c h=>?_,λb b' c h h'=>(hr _ _ h).1.trans (hr _ _ h').1.symm,λb c h=>?_,λb hb=>?_,hg.1,hg.2,λb c h=>?_⟩;.obtain⟨rfl,ha⟩:=hr _ _ h;obtain⟨⟨cs,e,fr,h1,h2⟩,_⟩:=uD ha;have hlt:=(YO.1 h1).1;exact⟨by rw[lV];omega,Ya _,hlt,by rw[kL];exact ha⟩
 .obtain⟨rfl,ha⟩:=hr _ _ h;obtain⟨⟨cs,e,fr,h1,h2⟩,_⟩:=uD ha;refine⟨_,h1,?_⟩;rw[kL,h2];refine⟨cs,e,fr,rfl,λi v hi ho=>?_⟩;unfold tP at hi;rw[YN1,Ys]at hi;obtain⟨cv,h3,h4⟩:=Option.map_eq_some_iff.1 hi;split at h4;.subst h4;cases ho
  .rename_i hf;subst h4;exact⟨⟨cv,h3,vh w cv ho⟩,hf⟩
 .rw[lV]at hb;rw[kL,Dd (by omega)]
 .obtain⟨rfl,ha⟩:=hr _ _ h;exact(uD ha).2
end
end Go.Ev
end
