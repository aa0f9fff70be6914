/- Lg: a part of the evaluator,of its logic,or of the laws' walk in it. -/
import Derived.Test.YtabnemidjklolaaGreatDoorEvD
open Nat renaming le_refl→YC,beq→YR,zero_le→Ya,ble→Yb,add→Yg,mul→Ym,le_trans→Ys,shiftLeft→Yt,mod→Yx,blt→WA,shiftRight→WC,succ→WN,ble_eq_true_of_le→WU,div→Wm,sub→QO,ne_of_lt→QZ,le_of_lt→Qb
open Or renaming inr→YE
open List renaming length_cons→YG,mem_cons_of_mem→YI,mem_cons_self→YL,length_nil→YQ,getElem?_mapIdx→YM1
open Array renaming getElem?_eq_some_iff→YO,getElem?_toList→Yr
open Eq renaming trans→Yc
set_option linter.unusedVariables false
set_option linter.unusedSimpArgs false
set_option linter.unusedSectionVars false
open Nat renaming reduceAdd→ZA,reduceSub→ZB,reduceMul→ZC,reduceEqDiff→ZD,reduceDiv→ZF,reduceMod→ZG,reduceLeDiff→ZH
section
namespace Go.Ev
def HT.has:HT->Nat->Prop|.e,_=>False|.n _ _ _,0=>True|.n _ l r,j+1=>if j%2=0then l.has (j/2)else r.has (j/2)
def HT.put(x:eB):HT->Nat->HT|.e,_=>.n x .e .e|.n _ l r,0=>.n x l r|.n u l r,j+1=>if j%2=0then .n u (l.put x (j/2)) r else .n u l (r.put x (j/2))
def HT.can:HT->Nat->Prop|.e,k=>k=0|.n _ _ _,0=>True|.n _ l r,j+1=>if j%2=0then l.can (j/2)else r.can (j/2)
theorem HT.BS:∀(t:HT)(k:Nat),t.has k->t.can k
 |.e,_,h=>h.elim|.n _ _ _,0,_=>trivial|.n _ l r,j+1,h=>by
  simp only[HT.has,HT.can]at h⊢;split;.rename_i hj;rw[if_pos hj]at h;exact BS l _ h
  .rename_i hj;rw[if_neg hj]at h;exact BS r _ h
theorem HT.wF:∀(t:HT)(k:Nat),(∀j,j<k->t.has j)->t.can k
 |.e,k,h=>by cases k with|zero=>rfl|succ k=>exact(h 0 (by omega)).elim
 |.n _ _ _,0,_=>trivial|.n u l r,j+1,h=>by
  simp only[HT.can];split;.rename_i hj;refine wF l _ λi hi=>?_;have:=h (2*i+1) (by omega);simp only[HT.has]at this;rw[if_pos (by omega),show 2*i/2=i by omega]at this;exact this
  .rename_i hj;refine wF r _ λi hi=>?_;have:=h (2*i+1+1) (by omega);simp only[HT.has]at this;rw[if_neg (by omega),show(2*i+1)/2=i by omega]at this;exact this
theorem HT.vV{x:eB}:∀(t:HT)(k:Nat)(c:HT->R),t.can k->t.set x k c=c (t.put x k)
 |.e,k,c,h=>by simp only[HT.can]at h;subst h;rfl|.n _ _ _,0,_,_=>rfl|.n u l r,j+1,c,h=>by
  simp only[HT.can]at h;show Nat.rec (motive:=λ_=>R) (l.set x (j/2) λl'=>c (.n u l' r)) (λ_ _=>r.set x (j/2) λr'=>c (.n u l r')) (j%2)=_;simp only[HT.put];by_cases hj:j%2=0;.rw[if_pos hj]at h⊢;rw[hj];exact vV l _ _ h
  .rw[if_neg hj]at h⊢;rw[show j%2=1by omega];exact vV r _ _ h
theorem HT.aG{x:eB}:∀(t:HT)(k j:Nat),t.can k->(t.put x k).get j=if j=k then x else t.get j
 |.e,k,j,h=>by simp only[HT.can]at h;subst h;cases j with|zero=>rfl|succ j=>simp only[HT.put,HT.cQ,HT.uu];simp
 |.n u l r,0,j,_=>by cases j with|zero=>rfl|succ j=>simp only[HT.put,HT.cQ];simp
 |.n u l r,k+1,j,h=>by
  simp only[HT.can]at h;by_cases hk:k%2=0;.rw[if_pos hk]at h;simp only[HT.put,if_pos hk];cases j with|zero=>simp[HT.EP]|succ j=>
    simp only[HT.cQ,aG l _ _ h];by_cases hj:j%2=0
    .simp only[if_pos hj];by_cases he:j=k;.subst he;simp
     .rw[if_neg (by omega),if_neg (by omega)]
    .simp only[if_neg hj];rw[if_neg (by omega)]
  .rw[if_neg hk]at h;simp only[HT.put,if_neg hk];cases j with|zero=>simp[HT.EP]|succ j=>
    simp only[HT.cQ,aG r _ _ h];by_cases hj:j%2=0;.simp only[if_pos hj];rw[if_neg (by omega)]
    .simp only[if_neg hj];by_cases he:j=k;.subst he;simp
     .rw[if_neg (by omega),if_neg (by omega)]
theorem HT.vH{x:eB}:∀(t:HT)(k j:Nat),t.can k->((t.put x k).has j↔j=k\/t.has j)
 |.e,k,j,h=>by simp only[HT.can]at h;subst h;cases j with|zero=>simp[HT.put,HT.has]|succ j=>simp only[HT.put,HT.has];split<;>simp
 |.n u l r,0,j,_=>by cases j with|zero=>simp[HT.put,HT.has]|succ j=>simp[HT.put,HT.has]
 |.n u l r,k+1,j,h=>by
  simp only[HT.can]at h;by_cases hk:k%2=0;.rw[if_pos hk]at h;simp only[HT.put,if_pos hk];cases j with|zero=>simp[HT.has]|succ j=>
    simp only[HT.has];by_cases hj:j%2=0;.simp only[if_pos hj,vH l _ _ h];constructor<;>rintro(h|h)<;>first|exact YE h|(left;omega)
    .simp only[if_neg hj];constructor;.exact YE
     .rintro(h|h);.omega
      .exact h
  .rw[if_neg hk]at h;simp only[HT.put,if_neg hk];cases j with|zero=>simp[HT.has]|succ j=>
    simp only[HT.has];by_cases hj:j%2=0
    .simp only[if_pos hj];constructor;.exact YE
     .rintro(h|h);.omega
      .exact h
    .simp only[if_neg hj,vH r _ _ h];constructor<;>rintro(h|h)<;>first|exact YE h|(left;omega)
def Heap.wf(H:Heap):Prop:=∀b,b<H.n->H.t.has b
open Classical in noncomputable def Heap.put(H:Heap)(b:Nat)(x:eB):Heap:=if H.wf/\b<H.n then .mk H.n (if H.bF<=b then H.bF else b) (H.t.put x b)else H
open Classical in noncomputable def Heap.new(H:Heap)(x:eB):Heap:=.mk (H.n+1) H.bF (if H.wf then H.t.put x H.n else H.t)
section
variable{H:Heap}{b:Nat}{x y:eB}
theorem Heap.nk(h:H.wf)(hb:b<H.n):H.put b x=.mk H.n (if H.bF<=b then H.bF else b) (H.t.put x b):=if_pos ⟨h,hb⟩
theorem Heap.Cf(h:H.wf):H.new x=.mk (H.n+1) H.bF (H.t.put x H.n):=by unfold Heap.new;rw[if_pos h]
theorem Heap.aV:(H.put b x).n=H.n:=by unfold Heap.put;split<;>rfl
theorem Heap.aO:(H.new x).n=H.n+1:=Yc rfl rfl
theorem Heap.nC:(H.new x).bF=H.bF:=Yc rfl rfl
theorem Heap.CZ(h:H.wf)(hb:b<H.n):(H.put b x).bF=if H.bF<=b then H.bF else b:=by rw[Heap.nk h hb];rfl
theorem Heap.wf.can(h:H.wf)(hb:b<=H.n):H.t.can b:=by
 rcases Nat.lt_or_eq_of_le hb with hb|rfl;.exact H.t.BS b (h b hb)
 .exact H.t.wF _ h
theorem Heap.bH:(H.put b x).wf=H.wf:=by
 by_cases h:H.wf/\b<H.n;.rw[Heap.nk h.1 h.2];exact propext ⟨λ_=>h.1,λ_ j hj=>(HT.vH _ _ _ (h.1.can (Qb h.2))).2 (YE (h.1 j hj))⟩
 .unfold Heap.put;rw[if_neg h]
theorem Heap.bd:(H.new x).wf=H.wf:=by
 by_cases h:H.wf;.rw[Heap.Cf h];exact propext ⟨λ_=>h,λ_ j hj=>(HT.vH _ _ _ (h.can (YC _))).2 (by
   have:j<H.n+1:=hj;rcases Nat.lt_or_ge j H.n with h'|h';.exact YE (h j h')
   .exact Or.inl (by omega))⟩
 .refine propext ⟨λh2=>absurd (λj hj=>?_) h,λh2=>absurd h2 h⟩;have:=h2 j (Nat.lt_succ_of_lt hj);unfold Heap.new at this;rw[if_neg h]at this;exact this
theorem Heap.aG(h:H.wf)(hb:b<H.n)(j:Nat):(H.put b x).get j=if j=b then x else H.get j:=by rw[Heap.nk h hb];exact HT.aG _ _ _ (h.can (Qb hb))
theorem Heap.aF(h:H.wf)(j:Nat):(H.new x).get j=if j=H.n then x else H.get j:=by rw[Heap.Cf h];exact HT.aG _ _ _ (h.can (YC _))
theorem eW{id}{k}(h:H.wf)(hb:b<H.n):cZ id H b x k=k (H.put b x):=by rw[Heap.nk h hb];cases H with|mk n bF t=>
  show aH (WA b n) (HT.set x t b λt'=>aH (Yb bF b) (k (.mk n bF t')) (k (.mk n b t'))) (no 0)=_;have hb':=hb;have h1:WA b n=true:=WU hb';rw[h1];rw[HT.vV t _ _ (h.can (Qb hb))];show aH (Yb bF b) _ _=k (.mk n (if bF<=b then bF else b) (t.put x b));by_cases hw:bF<=b;.rw[WU hw,if_pos hw];rfl
  .have:Yb bF b=false:=by cases hc:Yb bF b with|false=>rfl|true=>exact absurd (Nat.le_of_ble_eq_true hc) hw
   rw[this,if_neg hw];rfl
theorem cE{k}(h:H.wf):cC H x k=k H.n (H.new x):=by rw[Heap.Cf h];cases H with|mk n bF t=>show HT.set x t n (λt'=>av (WN n) λn'=>k n (.mk n' bF t'))=_;rw[HT.vV t n _ (h.can (YC n)),ax];rfl
end
theorem HT.iX{x y:eB}:∀(t:HT)(k:Nat),t.can k->(t.put x k).put y k=t.put y k
 |.e,k,h=>by simp only[HT.can]at h;subst h;rfl|.n _ _ _,0,_=>rfl|.n u l r,k+1,h=>by
  simp only[HT.can]at h;simp only[HT.put];by_cases hk:k%2=0;.rw[if_pos hk]at h;simp only[if_pos hk,HT.put,iX l _ h]
  .rw[if_neg hk]at h;simp only[if_neg hk,HT.put,iX r _ h]
theorem Heap.iX{H:Heap}{b:Nat}{x y:eB}:(H.put b x).put b y=H.put b y:=by
 by_cases h:H.wf/\b<H.n
 .have h1:(H.put b x).wf:=by rw[Heap.bH];exact h.1
  have h2:b<(H.put b x).n:=by rw[Heap.aV];exact h.2
  rw[Heap.nk h1 h2,Heap.nk h.1 h.2,Heap.nk h.1 h.2];show Heap.mk H.n (if(if H.bF<=b then H.bF else b)<=b then(if H.bF<=b then H.bF else b)else b) ((H.t.put x b).put y b)=Heap.mk H.n _ _;rw[HT.iX _ _ (h.1.can (Qb h.2))];congr 1;split<;>simp_all
 .have e:H.put b x=H:=if_neg h;rw[e]
theorem bI{c}{t f}:aH c t f=if c=true then t else f:=by cases c<;>rfl
@[simp]theorem Ce{a b}:(WA a b=true)=(a<b):=by simp
@[simp]theorem my{a b:Nat}:(Yb a b=true)=(a<=b):=by simp
@[simp]theorem pq{a b:Nat}:(YR a b=true)=(a=b):=by simp
section
variable{id:Nat}{x y:V}
@[congr]theorem ab0{f}(h:x=y):cD id x f=cD id y f:=by rw[h]
@[congr]theorem Z0{f}(h:x=y):eO id x f=eO id y f:=by rw[h]
@[congr]theorem ab3{f}(h:x=y):dZ id x f=dZ id y f:=by rw[h]
@[congr]theorem ab2{f}(h:x=y):ej id x f=ej id y f:=by rw[h]
@[congr]theorem XB{f}(h:x=y):lS id x f=lS id y f:=by rw[h]
@[congr]theorem Uu{f}{z}(h:x=y):bD id x f z=bD id y f z:=by rw[h]
@[congr]theorem ab1{f}(h:x=y):GP id x f=GP id y f:=by rw[h]
@[congr]theorem Z1{f}{z}(h:x=y):qI id x f z=qI id y f z:=by rw[h]
@[congr]theorem abY{f}(h:x=y):iT id x f=iT id y f:=by rw[h]
@[congr]theorem ab4{f}(h:x=y):zK id x f=zK id y f:=by rw[h]
@[congr]theorem XA{f}(h:x=y):dN id x f=dN id y f:=by rw[h]
@[congr]theorem Zz{f}(h:x=y):dV id x f=dV id y f:=by rw[h]
@[congr]theorem Zy{f}(h:x=y):isKey id x f=isKey id y f:=by rw[h]
@[congr]theorem ZM{f}(h:x=y):gf id x f=gf id y f:=by rw[h]
@[congr]theorem acj{b}{t f}(h:x=y):Hf x b t f=Hf y b t f:=by rw[h]
theorem yD{k n}{f}:cD id (.int k n) f=f k n:=Yc rfl rfl
theorem JU{b}{f}:eO id (.bool b) f=f b:=Yc rfl rfl
theorem Uc{l n}{f}:dZ id (.str l n) f=f l n:=Yc rfl rfl
theorem Ub{b o}{f}:ej id (.ptr b o) f=f b o:=Yc rfl rfl
theorem CV{b o l c s}{f}:lS id (.slice b o l c s) f=f b o l c s:=Yc rfl rfl
theorem cq{b o l c s}{f}{z}:bD id (.slice b o l c s) f z=f b o l c s:=Yc rfl rfl
theorem ek{f}{z}:bD id .aC f z=z:=Yc rfl rfl
theorem Ua{b}{f}:GP id (.map b) f=f b:=Yc rfl rfl
theorem Om{b}{f}{z}:qI id (.map b) f z=f b:=Yc rfl rfl
theorem T9{l}{f}:iT id (.agg l) f=f l:=Yc rfl rfl
theorem Ud{l}{f}:zK id (.cG l) f=f l:=Yc rfl rfl
theorem JW{k n}{f}:dN id (.int k n) f=f [.int k n]:=Yc rfl rfl
theorem GL{b}{f}:dN id (.bool b) f=f [.bool b]:=Yc rfl rfl
theorem JZ{l n}{f}:dN id (.str l n) f=f [.str l n]:=Yc rfl rfl
theorem JY{b o}{f}:dN id (.ptr b o) f=f [.ptr b o]:=Yc rfl rfl
theorem CT{b o l c s}{f}:dN id (.slice b o l c s) f=f [.slice b o l c s]:=Yc rfl rfl
theorem GN{f}:dN id .aC f=f [.aC]:=Yc rfl rfl
theorem JX{b}{f}:dN id (.map b) f=f [.map b]:=Yc rfl rfl
theorem GM{n}{l}{f}:dN id (.func n l) f=f [.func n l]:=Yc rfl rfl
theorem JV{l}{f}:dN id (.agg l) f=f l:=Yc rfl rfl
theorem AB{k n}{f}:dV id (.int k n) f=f:=Yc rfl rfl
theorem IM{b}{f}:dV id (.bool b) f=f:=Yc rfl rfl
theorem AF{l n}{f}:dV id (.str l n) f=f:=Yc rfl rfl
theorem Ni{b o}{f}:dV id (.ptr b o) f=f:=Yc rfl rfl
theorem EX{b o l c s}{f}:dV id (.slice b o l c s) f=f:=Yc rfl rfl
theorem IP{f}:dV id .aC f=f:=Yc rfl rfl
theorem Nh{b}{f}:dV id (.map b) f=f:=Yc rfl rfl
theorem IN{n}{l}{f}:dV id (.func n l) f=f:=Yc rfl rfl
theorem Ng{k n}{f}:isKey id (.int k n) f=f:=Yc rfl rfl
theorem I4{b}{f}:gf id (.bool b) f=aH b (f 2) (f 3):=Yc rfl rfl
theorem Nw{b o}{f}:gf id (.ptr b o) f=f 11:=Yc rfl rfl
theorem I6{f}:gf id .py f=f 10:=Yc rfl rfl
theorem FA{b o l c s}{f}:gf id (.slice b o l c s) f=f 21:=Yc rfl rfl
theorem I7{f}:gf id .aC f=f 20:=Yc rfl rfl
theorem Nv{b}{f}:gf id (.map b) f=f 31:=Yc rfl rfl
theorem I5{f}:gf id .ve f=f 30:=Yc rfl rfl
theorem aa9{t f}:Hf (.bool true) true t f=t:=Yc rfl rfl
theorem aa8{t f}:Hf (.bool true) false t f=f:=Yc rfl rfl
theorem aa6{t f}:Hf (.bool false) true t f=f:=Yc rfl rfl
theorem aa5{t f}:Hf (.bool false) false t f=t:=Yc rfl rfl
end
theorem V9{s}{e}:aA (.s s) e=af s e:=Yc rfl rfl
theorem V8{v}{e}:aA (.c v) e=v:=Yc rfl rfl
section
variable{fuel id:Nat}{ph:dg}{e:Env}{H:Heap}{kn:KE}{kx:Nat->KE}{a b:au}{k:Env->Heap->R}{l:List Db}{d:Option Slot}{op:lk}{cls:Nat}
theorem Se:gG .skip fuel ph e H kn kx=kn e H:=Yc rfl rfl
theorem Vf:gG (.seq a b) fuel ph e H kn kx=gG a fuel ph e H (λe H=>gG b fuel ph e H kn kx) kx:=Yc rfl rfl
theorem Vd:gG (.rj l) fuel ph e H kn kx=jm ph l e H kn:=Yc rfl rfl
theorem Sa:gG (.tz l) fuel ph e H kn kx=cP ph l e H kn:=Yc rfl rfl
theorem RZ{c}:gG (.cond c a b) fuel ph e H kn kx=eO 0 (aA c e) λq=>if q=true then gG a fuel ph e H kn kx else gG b fuel ph e H kn kx:=by show aJ c e (λv=>eO 0 v λq=>aH q (gG a fuel ph e H kn kx) (gG b fuel ph e H kn kx))=_;rw[aq];congr 1;funext q;exact bI
theorem MU:gG (.block id a) fuel ph e H kn kx=gG a fuel ph e H kn λn e H=>if n=id+1then kn e H else kx n e H:=by show gG a fuel ph e H kn (λn e H=>aH (YR n (WN id)) (kn e H) (kx n e H))=_;congr 1;funext n e H;rw[bI];simp
theorem Sc:gG (.exit id) fuel ph e H kn kx=kx (id+1) e H:=Yc rfl rfl
theorem Ve:gG .ret fuel ph e H kn kx=kx 0 e H:=Yc rfl rfl
noncomputable def kf(a:au)(fuel:Nat)(ph:dg)(kx:Nat->KE)(n:Nat):KE:=Nat.rec (motive:=λ_=>Env->Heap->R) (λ_ _=>no 3) (λ_ ih e H=>gG a fuel ph e H ih kx) n
theorem Sd:gG (.loop a) fuel ph e H kn kx=kf a fuel ph kx fuel e H:=Yc rfl rfl
theorem ak{n}:kf a fuel ph kx (n+1) e H=gG a fuel ph e H (kf a fuel ph kx n) kx:=Yc rfl rfl
theorem Jr{s}{v}{e}:dD (some s) v e=kY s v e:=Yc rfl rfl
theorem Jq{v}{e}:dD none v e=e:=Yc rfl rfl
theorem MV:jm ph [] e H k=k e H:=Yc rfl rfl
theorem Iw:jm ph (⟨id,d,none,cls,op⟩::l) e H k=aQ op id ph e H λv H'=>jm ph l (dD d v e) H' k:=by show aQ op id ph e H (λv H'=>cj d v e λe'=>jm ph l e' H' k)=_;simp only[ck]
theorem Ix{s}{b}:jm ph (⟨id,d,some (s,b),cls,op⟩::l) e H k=Hf (af s e) b (aQ op id ph e H λv H'=>jm ph l (dD d v e) H' k) (jm ph l (dD d (.cG []) e) H k):=by show jU s e (λv=>Hf v b (aQ op id ph e H λv H'=>cj d v e λe'=>jm ph l e' H' k) (cj d (.cG []) e λe'=>jm ph l e' H k))=_;simp only[ck,eg]
noncomputable def Heap.mark(H:Heap):Heap:=.mk H.n H.n H.t
noncomputable def Heap.dY(H:Heap)(w:Nat):Heap:=.mk H.n w H.t
theorem Heap.SI:H.mark.n=H.n:=Yc rfl rfl
theorem Heap.GX:H.mark.bF=H.n:=Yc rfl rfl
theorem Heap.EO{b:Nat}:H.mark.get b=H.get b:=Yc rfl rfl
theorem Heap.eE:H.mark.wf=H.wf:=Yc rfl rfl
theorem Heap.CP{w:Nat}:H.mark.dY w=H.dY w:=Yc rfl rfl
theorem Heap.GI{w:Nat}{x:eB}:(H.new x).dY w=(H.dY w).new x:=Yc rfl rfl
theorem Heap.GJ:H.dY H.bF=H:=by cases H;rfl
theorem Iu:cP ph [] e H k=k e H:=Yc rfl rfl
theorem Es:cP ph (⟨id,d,none,0,op⟩::l) e H k=aQ op id ph e H λv H'=>cP ph l (dD d v e) H' k:=by show aQ op id ph e H (λv H'=>cj d v e λe'=>cP ph l e' H' k)=_;simp only[ck]
theorem Et{s}{b}:cP ph (⟨id,d,some (s,b),0,op⟩::l) e H k=Hf (af s e) b (aQ op id ph e H λv H'=>cP ph l (dD d v e) H' k) (cP ph l (dD d (.cG []) e) H k):=by show jU s e (λv=>Hf v b (aQ op id ph e H λv H'=>cj d v e λe'=>cP ph l e' H' k) (cj d (.cG []) e λe'=>cP ph l e' H k))=_;simp only[ck,eg]
theorem ur:cP ph (⟨id,d,none,1,op⟩::l) e H k=aQ op id ph e H.mark λv H'=>if H.n<=H'.bF then cP ph l (dD d v e) (H'.dY H.bF) k else no 0:=by cases H with|mk n bF t=>show aQ op id ph e (.mk n n t) (λv H'=>Heap.rec (λn' wlo' t'=>aH (Yb n wlo') (cj d v e λe'=>cP ph l e' (.mk n' bF t') k) (no 0)) H')=_;congr 1;funext v H';cases H' with|mk n' wlo' t'=>show aH (Yb n wlo') (cj d v e λe'=>cP ph l e' (.mk n' bF t') k) (no 0)=_;rw[bI,ck];simp only[my];rfl
theorem BN{s}{b}:cP ph (⟨id,d,some (s,b),1,op⟩::l) e H k=Hf (af s e) b (aQ op id ph e H.mark λv H'=>if H.n<=H'.bF then cP ph l (dD d v e) (H'.dY H.bF) k else no 0) (cP ph l (dD d (.cG []) e) H k):=by have h1:=ur (id:=id) (ph:=ph) (e:=e) (H:=H) (k:=k) (l:=l) (d:=d) (op:=op);have h2:cP ph (⟨id,d,some (s,b),1,op⟩::l) e H k=jU s e (λv=>Hf v b (cP ph (⟨id,d,none,1,op⟩::l) e H k) (cj d (.cG []) e λe'=>cP ph l e' H k)):=rfl;rw[h2,eg,ck,h1]
end
section
variable{id:Nat}
theorem SQ{v}{l}{k}:nth id (v::l) 0 k=k v:=Yc rfl rfl
theorem FB{v}{l}{i}{k}:nth id (v::l) (i+1) k=nth id l i k:=Yc rfl rfl
theorem iV:∀{l}{i}{v}{k},l[i]?=some v->nth id l i k=k v|[],i,v,k,h=>by simp_all|x::l,0,v,k,h=>by simp at h;subst h;rfl|x::l,i+1,v,k,h=>by rw[FB];exact iV (by simp_all)
theorem eV:∀{l}{i}{k},i<=l.length->fE id l i k=k (l.drop i)|[],0,k,_=>rfl|[],i+1,k,h=>by simp_all|x::l,0,k,_=>rfl|x::l,i+1,k,h=>by show fE id l i k=_;rw[eV (by simp_all)];rfl
theorem eF:∀{l}{i}{k},i<=l.length->takeN id l i k=k (l.take i)|[],0,k,_=>rfl|[],i+1,k,h=>by simp_all|x::l,0,k,_=>rfl|x::l,i+1,k,h=>by show takeN id l i (λr=>k (x::r))=_;rw[eF (by simp_all)];rfl
theorem Cm:∀{m l}{k},m.length<=l.length->over id m l k=k (m++l.drop m.length)|[],l,k,_=>rfl|x::m,[],k,h=>by simp_all|x::m,y::l,k,h=>by show over id m l (λq=>k (x::q))=_;rw[Cm (by simp_all)];rfl
theorem sF:∀{m l}{i}{k},i+m.length<=l.length->setAt id m l i k=k (l.take i++(m++l.drop (i+m.length)))|m,[],0,k,h=>by show over id m [] k=_;rw[Cm (by omega)];simp|m,[],i+1,k,h=>by simp_all|m,y::l,0,k,h=>by show over id m (y::l) k=_;rw[Cm (by omega)];simp|m,y::l,i+1,k,h=>by show setAt id m l i (λq=>k (y::q))=_;rw[sF (by simp at h;omega)];simp[Nat.add_right_comm]
theorem N0{x}{l}{i}{k}(h:i<l.length):setAt id [x] l i k=k (l.set i x):=by rw[sF (by simp only[YG,YQ];omega),List.set_eq_take_append_cons_drop,if_pos h];rfl
theorem HE{k}:bA id [] k=k:=Yc rfl rfl
theorem lr{v}{l}{k}:bA id (v::l) k=dV id v (bA id l k):=Yc rfl rfl
end
@[congr]theorem ZY{id}{l m}{i j}{k}(h:l=m)(h':i=j):takeN id l i k=takeN id m j k:=by simp_all
@[congr]theorem ZU{id}{m m' l l'}{i j}{k}(h0:m=m')(h:l=l')(h':i=j):setAt id m l i k=setAt id m' l' j k:=by simp_all
@[congr]theorem UE{id}{l m}{k}(h:l=m):bA id l k=bA id m k:=by rw[h]
@[congr]theorem Vh{n m}{k}(h:n=m):av n k=av m k:=by rw[h]
noncomputable def FO(id:Nat)(bl:eB)(off:Nat)(k:V->R):R:=bRd id bl (λl=>nth id l off k) (λlen n=>if off<len then k (.int 4 (n>>>(8*off)&&&255))else no 0) λl=>nth id l off λv=>dV id v (k v)
noncomputable def vh(id:Nat)(bl:eB)(off n:Nat)(k:List V->R):R:=bRd id bl (λl=>fE id l off λr=>takeN id r n k) (λlen x=>if off+n<=len then k ((aD n (x>>>(8*off))).map eC)else no 0) λl=>fE id l off λr=>takeN id r n λq=>bA id q (k q)
@[congr]theorem aco{id}{x y}{i j}{k}(h:x=y)(h':i=j):FO id x i k=FO id y j k:=by simp_all
@[congr]theorem abH{id}{x y}{i j n m}{k}(h:x=y)(h':i=j)(h2:n=m):vh id x i n k=vh id y j m k:=by simp_all
@[congr]theorem acd{id}{x y}{kc}{kb}(h:x=y):uc id x kc kb=uc id y kc kb:=by rw[h]
@[congr]theorem aal{id}{x y}{k}(h:x=y):rP id x k=rP id y k:=by rw[h]
section
variable{id:Nat}{H:Heap}
theorem fL{l}{kc}{kb}:uc id (.cells l) kc kb=kc l:=Yc rfl rfl
theorem L3{a b}{kc}{kb}:uc id (.bytes a b) kc kb=kb a b:=Yc rfl rfl
theorem Pg{es}{k}:rP id (.map es) k=k es:=Yc rfl rfl
theorem SB{b off}{k}:nJ id H b off k=uc id (H.get b) (λl=>nth id l off k) λlen n=>if off<len then k (.int 4 (n>>>(8*off)&&&255))else no 0:=by unfold nJ;rw[aW];congr 1;funext len n;rw[bI];simp only[Ce,ax];rfl
theorem abG{b off}{k}:Lc id H b off k=FO id (H.get b) off k:=by unfold Lc FO;rw[aW];congr 1;funext len n;rw[bI];simp only[Ce,ax];rfl
theorem Cv{b off n}{k}:FP id H b off n k=vh id (H.get b) off n k:=by unfold FP vh;rw[aW];congr 1;funext len x;rw[bI];simp only[my,iS];rfl
theorem NR{l}{off}{k}:FO id (.cells l) off k=nth id l off k:=Yc rfl rfl
theorem NQ{len n off}{k}:FO id (.bytes len n) off k=if off<len then k (.int 4 (n>>>(8*off)&&&255))else no 0:=Yc rfl rfl
theorem iP{l}{off n}{k}:vh id (.cells l) off n k=fE id l off λr=>takeN id r n k:=Yc rfl rfl
theorem AW{l}{off n}{k}:vh id (.view l) off n k=fE id l off λr=>takeN id r n λq=>bA id q (k q):=Yc rfl rfl
theorem pj{b off n}{k}:eL id H b off n k=uc id (H.get b) (λl=>fE id l off λr=>takeN id r n k) λlen x=>if off+n<=len then k ((aD n (x>>>(8*off))).map eC)else no 0:=by unfold eL;rw[aW];congr 1;funext len x;rw[bI];simp only[my,iS];rfl
theorem JP{b off}{m}{k}:dS id H b off m k=uc id (H.get b) (λl=>bA id m (setAt id m l off λl'=>cZ id H b (.cells l') k)) λlen x=>iB id m λml mx=>aH (Yb (Yg off ml) len) (av (Yg (Yx x (Nat.pow 256 off)) (Yt (Yg mx (Yt (WC x (Ym 8 (Yg off ml))) (Ym 8 ml))) (Ym 8 off))) λx'=>cZ id H b (.bytes len x') k) (no 0):=by rfl
theorem Od{b off}{m}{k}{l}(hb:H.get b=.cells l):dS id H b off m k=bA id m (setAt id m l off λl'=>cZ id H b (.cells l') k):=by unfold dS;rw[aW,hb];rfl
end
noncomputable def aj(ph:dg)(x:V)(args:List V)(H:Heap)(k:K):R:=ph x args H k
@[congr]theorem Zs{ph}{x y}{l m}{H G}{k}(h:x=y)(h':l=m)(h2:H=G):aj ph x l H k=aj ph y m G k:=by simp_all
section
variable{id:Nat}{ph:dg}{e:Env}{H:Heap}{k:K}
theorem abB{x}:aQ (.gU x) id ph e H k=k (aA x e) H:=by show aJ x e (λv=>k v H)=_;rw[aq]
theorem VY{c x y}:aQ (.pick c x y) id ph e H k=eO id (aA c e) λb=>if b=true then k (aA x e) H else k (aA y e) H:=by show aJ c e (λc=>eO id c λb=>aH b (aJ x e λv=>k v H) (aJ y e λv=>k v H))=_;simp only[aq,bI]
theorem VW{z}(h:H.wf):aQ (.nT z) id ph e H k=k (.ptr H.n 0) (H.new (.cells z)):=cE (k:=λn H=>k (.ptr n 0) H) h
theorem VV{n}(h:H.wf):aQ (.abl n) id ph e H k=k (.ptr H.n 0) (H.new (.bytes n 0)):=cE (k:=λn H=>k (.ptr n 0) H) h
theorem Tc(h:H.wf):aQ .mkMap id ph e H k=k (.map H.n) (H.new (.map [])):=cE (k:=λn H=>k (.map n) H) h
theorem abv{x}:aQ (.box x) id ph e H k=dN id (aA x e) λl=>bA id l (cC H (.cells l) λn H=>k (.ptr n 0) H):=by show aJ x e (λv=>dN id v λl=>bA id l (cC H (.cells l) λn H=>k (.ptr n 0) H))=_;rw[aq]
theorem S9{a}:aQ (.cR a) id ph e H k=ej id (aA a e) λb o=>Lc id H b o λv=>k v H:=by show aJ a e (λa=>ej id a λb o=>Lc id H b o λv=>k v H)=_;rw[aq]
theorem Ta{n}{a}:aQ (.cJ n a) id ph e H k=ej id (aA a e) λb o=>FP id H b o n λl=>k (.agg l) H:=by show aJ a e (λa=>ej id a λb o=>FP id H b o n λl=>k (.agg l) H)=_;rw[aq]
theorem NA{a x}:aQ (.eA a x) id ph e H k=ej id (aA a e) λb o=>dV id (aA x e) (dS id H b o [aA x e] λH=>k (.cG []) H):=by show aJ a e (λa=>ej id a λb o=>aJ x e λx=>dV id x (dS id H b o [x] λH=>k (.cG []) H))=_;simp only[aq]
theorem NB{n}{a x}:aQ (.jJ n a x) id ph e H k=ej id (aA a e) λb o=>iT id (aA x e) λl=>if l.length=n then dS id H b o l λH=>k (.cG []) H else no 0:=by show aJ a e (λa=>ej id a λb o=>aJ x e λx=>iT id x λl=>aH (YR (fA l) n) (dS id H b o l λH=>k (.cG []) H) (no 0))=_;simp only[aq,bI,pq,jV]
noncomputable def GS(v:V)(k:K)(H:Heap):R:=KM (.c v) 0 (λ_ _ _ _=>0) Eo H k
theorem VX{x}:aQ (.Fx x) id ph e H k=GS (aA x e) k H:=by show KM x id ph e H k=_;unfold GS KM;rw[aq,aq];rfl
@[congr]theorem Z4{x y}(h:x=y):GS x k H=GS y k H:=by rw[h]
theorem On{b o}:GS (.ptr b o) k H=k (.ptr b o) H:=Yc rfl rfl
theorem abu{kd ky}{f}{x y}:aQ (.bin kd ky f x y) id ph e H k=cD id (aA x e) λk1 a=>cD id (aA y e) λk2 b=>if k1=kd then(if k2=ky then gv id f a b λr=>k (.int kd r) H else no 0)else no 0:=by show aJ x e (λx=>cD id x λk1 a=>aJ y e λy=>cD id y λk2 b=>aH (YR k1 kd) (aH (YR k2 ky) (gv id f a b λr=>k (.int kd r) H) (no 0)) (no 0))=_;simp only[aq,bI,pq]
theorem abw{kd}{f}{x y}:aQ (.cmp kd f x y) id ph e H k=cD id (aA x e) λk1 a=>cD id (aA y e) λk2 b=>if k1=kd then(if k2=kd then(if dW f a b=true then k (.bool true) H else k (.bool false) H)else no 0)else no 0:=by show aJ x e (λx=>cD id x λk1 a=>aJ y e λy=>cD id y λk2 b=>aH (YR k1 kd) (aH (YR k2 kd) (aH (dW f a b) (k (.bool true) H) (k (.bool false) H)) (no 0)) (no 0))=_;simp only[aq,bI,pq]
theorem abx{kc}{neg}{x y}:aQ (.eqv kc neg x y) id ph e H k=gf id (aA x e) λa=>gf id (aA y e) λb=>if a/10=kc then(if b/10=kc then(if a=b then(if a%10=1then no 0 else k (.bool (!neg)) H)else k (.bool neg) H)else no 0)else no 0:=by
 show aJ x e (λx=>gf id x λa=>aJ y e λy=>gf id y λb=>aH (YR (Wm a 10) kc) (aH (YR (Wm b 10) kc) (aH (YR a b) (aH (YR (Yx a 10) 1) (no 0) (aH neg (k (.bool false) H) (k (.bool true) H))) (k (.bool neg) H)) (no 0)) (no 0))=_;have hn:aH neg (k (.bool false) H) (k (.bool true) H)=k (.bool (!neg)) H:=by cases neg<;>rfl
 simp only[aq,bI (c:=YR _ _),pq,hn];rfl
theorem VS{x}:aQ (.vd x) id ph e H k=eO id (aA x e) λb=>k (.bool (!b)) H:=by show aJ x e (λx=>eO id x λb=>aH b (k (.bool false) H) (k (.bool true) H))=_;rw[aq];congr 1;funext b;cases b<;>rfl
theorem VK{off}{x}:aQ (.gS off x) id ph e H k=ej id (aA x e) λb o=>k (.ptr b (o+off)) H:=by show aJ x e (λx=>ej id x λb o=>av (Yg o off) λo'=>k (.ptr b o') H)=_;simp only[aq,ax];rfl
theorem VL{off}{x}:aQ (.MY off x) id ph e H k=iT id (aA x e) λl=>nth id l off λv=>k v H:=by show aJ x e (λx=>iT id x λl=>nth id l off λv=>k v H)=_;rw[aq]
theorem VM{off n}{x}:aQ (.MZ off n x) id ph e H k=iT id (aA x e) λl=>fE id l off λr=>takeN id r n λq=>k (.agg q) H:=by show aJ x e (λx=>iT id x λl=>fE id l off λr=>takeN id r n λq=>k (.agg q) H)=_;rw[aq]
theorem VJ{x}{i}:aQ (.Sg x i) id ph e H k=zK id (aA x e) λl=>nth id l i λv=>k v H:=by show aJ x e (λx=>zK id x λl=>nth id l i λv=>k v H)=_;rw[aq]
theorem abA{f}{caps}:aQ (.mkF f caps) id ph e H k=k (.func f (caps.map (aA · e))) H:=by show oT caps e (λl=>k (.func f l) H)=_;rw[ib]
theorem VH{f}{args}:aQ (.call f args) id ph e H k=aj ph (.func f []) (args.map (aA · e)) H k:=by show oT args e (λl=>ph (.func f []) l H k)=_;rw[ib];rfl
theorem SY{x}{args}:aQ (.Rn x args) id ph e H k=aj ph (aA x e) (args.map (aA · e)) H k:=by show aJ x e (λx=>oT args e λl=>ph x l H k)=_;rw[aq,ib];rfl
theorem KW{n}:kX id n H k=if n<9223372036854775808then k (.int 3 n) H else no 0:=by unfold kX;rw[bI];simp
theorem VQ{x}:aQ (.aeH x) id ph e H k=dZ id (aA x e) λn _=>kX id n H k:=by show aJ x e (λx=>dZ id x λn _=>kX id n H k)=_;rw[aq]
theorem VN{x}:aQ (.fA x) id ph e H k=bD id (aA x e) (λ_ _ n _ _=>kX id n H k) (kX id 0 H k):=by show aJ x e (λx=>bD id x (λ_ _ n _ _=>kX id n H k) (kX id 0 H k))=_;rw[aq]
theorem VO{x}:aQ (.B8 x) id ph e H k=qI id (aA x e) (λb=>rP id (H.get b) λes=>kX id es.length H k) (kX id 0 H k):=by show aJ x e (λx=>qI id x (λb=>dv H b λbl=>rP id bl λes=>av (B8 es) λn=>kX id n H k) (kX id 0 H k))=_;simp only[aq,aW,ax,B9]
theorem aeK{kd o m}{mx}{x y}:aQ (.mm kd o m mx x y) id ph e H k=cD id (aA x e) λk1 a=>cD id (aA y e) λk2 b=>if k1=kd then(if k2=kd then k (.int kd (vO mx o m a b)) H else no 0)else no 0:=by show aJ x e (λx=>cD id x λk1 a=>aJ y e λy=>cD id y λk2 b=>aH (YR k1 kd) (aH (YR k2 kd) (FJ o m mx a b λr=>k (.int kd r) H) (no 0)) (no 0))=_;simp only[aq,bI,pq,xX]
end
section
variable{cp:RC->au}{t:Nat->Option dr}{fuel d:Nat}{H:Heap}{k:K}{args caps:List V}{f F:Nat}{ps:List Slot}{res:List RV}{c:au}
noncomputable def tT(res:List RV)(k:K)(e:Env)(H:Heap):R:=xu res e H λl=>Jy l λv=>k v H
theorem ay(ht:t F=some (.code ps res c))(hf:f%2=0)(hF:f/2=F):aj (aT cp t fuel (d+1)) (.func f caps) args H k=gi ps (args++caps) Eo λe=>gG c fuel (aT cp t fuel d) e H (tT res k) λn e H=>if n=0then tT res k e H else no 6:=by show Nat.rec (motive:=λ_=>R) (jQ args caps λargs=>Iy t fuel (aT cp t fuel d) (Wm f 2) args H k) (λ_ _=>jQ caps args λargs=>Iy t fuel (aT cp t fuel d) (Wm f 2) args H k) (Yx f 2)=_;have h1:Yx f 2=0:=hf;have h2:Wm f 2=F:=hF;rw[h1,h2];rw[fu];show av F (λf=>Option.rec (no (100+f)) (λfn=>Vg fn fuel (aT cp t fuel d) (args++caps) H k) (t f))=_;rw[ax,ht];show gi ps (args++caps) Eo (λe=>gG c fuel (aT cp t fuel d) e H (tT res k) λn e H=>Nat.rec (tT res k e H) (λ_ _=>no 6) n)=_;congr 1;funext e;congr 1;funext n e H;cases n<;>rfl
@[congr]theorem ZV{l m}{e}{k}(h:l=m):gi ps l e k=gi ps m e k:=by rw[h]
@[congr]theorem aa2{x y}{k}(h:x=y):cC H x k=cC H y k:=by rw[h]
@[congr]theorem aa3{id b c}{x y}{k}(h':b=c)(h:x=y):cZ id H b x k=cZ id H c y k:=by simp_all
@[congr]theorem ZP{id}{l m}{k}(h:l=m):iB id l k=iB id m k:=by rw[h]
theorem N3{e}{k}:gi [] [] e k=k e:=Yc rfl rfl
theorem JE{s}{v}{ps}{l}{e}{k}:gi (s::ps) (v::l) e k=gi ps l (kY s v e) k:=by show JF s v e (λe'=>gi ps l e' k)=_;rw[sG]
theorem To{e}:tT [] k e H=k (.cG []) H:=Yc rfl rfl
theorem Tp{s}{e}:tT [.tmp s] k e H=k (af s e) H:=by show jU s e (λv=>k v H)=_;rw[eg]
theorem Tq{s s'}{e}:tT [.tmp s,.tmp s'] k e H=k (.cG [af s e,af s' e]) H:=by show jU s e (λv=>jU s' e λv'=>k (.cG [v,v']) H)=_;rw[eg,eg]
theorem Jx{s s' s2}{e}:tT [.tmp s,.tmp s',.tmp s2] k e H=k (.cG [af s e,af s' e,af s2 e]) H:=by show jU s e (λv=>jU s' e λv'=>jU s2 e λv2=>k (.cG [v,v',v2]) H)=_;rw[eg,eg,eg]
end
section
variable{id:Nat}{ph:dg}{e:Env}{H:Heap}{k:K}
theorem idx_eq{i}{len}{f}:idx id i e len f=cD id (aA i e) λkd n=>if 3<=kd then(if n<len then(if n<9223372036854775808then f n else no 0)else no 0)else no 0:=by show aJ i e (λv=>cD id v λkd n=>aH (Yb 3 kd) (aH (WA n len) (aH (WA n 9223372036854775808) (f n) (no 0)) (no 0)) (no 0))=_;simp only[aq,bI,my,Ce]
theorem abz{size}{x i}:aQ (.zC size x i) id ph e H k=lS id (aA x e) λb o len _ _=>idx id i e len λn=>k (.ptr b (o+n*size)) H:=by show aJ x e (λx=>lS id x λb o len _ _=>idx id i e len λn=>av (Yg o (Ym n size)) λo'=>k (.ptr b o') H)=_;simp only[aq,ax];rfl
theorem aby{len size}{x i}:aQ (.ixA len size x i) id ph e H k=ej id (aA x e) λb o=>idx id i e len λn=>k (.ptr b (o+n*size)) H:=by show aJ x e (λx=>ej id x λb o=>idx id i e len λn=>av (Yg o (Ym n size)) λo'=>k (.ptr b o') H)=_;simp only[aq,ax];rfl
theorem SZ{src dst c}{x}:aQ (.wM src dst 0 c x) id ph e H k=cD id (aA x e) λk1 a=>if k1=src then k (.int dst (a%c)) H else no 0:=by show aJ x e (λx=>cD id x λk1 a=>aH (YR k1 src) (av (Yx a c) λr=>k (.int dst r) H) (no 0))=_;simp only[aq,bI,pq,ax];rfl
theorem MW{z}{f}:kD id e [] z f=f z:=Yc rfl rfl
theorem IA{off size}{a}{ps}{z}{f}:kD id e ((off,size,a)::ps) z f=dN id (aA a e) λl=>if l.length=size then setAt id l z off λz'=>kD id e ps z' f else no 0:=by show aJ a e (λv=>dN id v λl=>aH (YR (fA l) size) (setAt id l z off λz'=>kD id e ps z' f) (no 0))=_;simp only[aq,bI,pq,jV]
theorem SX{z}{ps}:aQ (.build z ps) id ph e H k=kD id e ps z λl=>k (.agg l) H:=Yc rfl rfl
theorem Nz{len}{z}{ps}:aQ (.jD false len z ps) id ph e H k=kD id e ps z λl=>bA id l (cC H (.cells l) λb H=>k (.slice b 0 len (len+1) 0) H):=Yc rfl rfl
theorem Jc{len}{z}{ps}:aQ (.jD true len z ps) id ph e H k=kD id e ps z λl=>iB id l λln n=>cC H (.bytes ln n) λb H=>k (.slice b 0 len (len+1) 0) H:=Yc rfl rfl
theorem V0{neg}{x y}:aQ (.TA neg x y) id ph e H k=dZ id (aA x e) λl1 n1=>dZ id (aA y e) λl2 n2=>if l1=l2/\n1=n2 then k (.bool (!neg)) H else k (.bool neg) H:=by
 show aJ x e (λx=>dZ id x λl1 n1=>aJ y e λy=>dZ id y λl2 n2=>aH (YR l1 l2) (aH (YR n1 n2) (aH neg (k (.bool false) H) (k (.bool true) H)) (k (.bool neg) H)) (k (.bool neg) H))=_;have hn:aH neg (k (.bool false) H) (k (.bool true) H)=k (.bool (!neg)) H:=by cases neg<;>rfl
 simp only[aq,bI (c:=YR _ _),pq,hn];congr 1;funext l1 n1;congr 1;funext l2 n2;by_cases h1:l1=l2<;>by_cases h2:n1=n2<;>simp[h1,h2]
theorem VZ{x y}:aQ (.Tw x y) id ph e H k=dZ id (aA x e) λl1 n1=>dZ id (aA y e) λl2 n2=>if l1+l2<9223372036854775808then k (.str (l1+l2) (n1+n2*256^l1)) H else no 0:=by show aJ x e (λx=>dZ id x λl1 n1=>aJ y e λy=>dZ id y λl2 n2=>av (Yg l1 l2) λl=>aH (WA l 9223372036854775808) (av (Yg n1 (Yt n2 (Ym 8 l1))) λn=>k (.str l n) H) (no 0))=_;simp only[aq,ax,bI,Ce,TK];rfl
theorem dQ{size b o l c s}{f}:cX id size H (.slice b o l c s) f=if l=0then f 0 []else FP id H b o (l*size) λm=>f l m:=by cases l<;>rfl
@[congr]theorem SM{size}{x y}{f}(h:x=y):cX id size H x f=cX id size H y f:=by rw[h]
theorem nv{a b}{n}:Nat.rec (motive:=λ_=>R) a (λ_ _=>b) n=if n=0then a else b:=by cases n<;>rfl
theorem da{size}{s x}:aQ (.app false size s x) id ph e H k=cX id size H (aA x e) λn new=>bD id (aA s e) (λb o len cp sz=>if n=0then k (aA s e) H else rM id size n new b o len cp sz H k) (if n=0then k (aA s e) H else bA id new (if n<=1073741824then cC H (.cells new) λb' H=>k (.slice b' 0 n 0 size) H else no 0)):=by show aJ s e (λs=>aJ x e λx=>cX id size H x λn new=>bD id s (λb o len cp sz=>Nat.rec (k s H) (λ_ _=>rM id size n new b o len cp sz H k) n) (Nat.rec (k s H) (λ_ _=>bA id new (aH (Yb n 1073741824) (cC H (.cells new) λb' H=>k (.slice b' 0 n 0 size) H) (no 0))) n))=_;simp only[aq,nv,bI,my]
theorem l4{size n b len}{new}:rM id size n new b 0 len 0 size H k=bA id new (if len+n<=1073741824then uc id (H.get b) (λl=>if l.length=len*size then cZ id H b .dead λH=>cC H (.cells (l++new)) λb' H=>k (.slice b' 0 (len+n) 0 size) H else no 0) (λ_ _=>no 0)else no 0):=by show bA id new (av (Yg len n) λneed=>aH (Yb need 1073741824) (aH (YR size size) (aH (YR 0 0) (dv H b λbl=>uc id bl (λl=>aH (YR (fA l) (Ym len size)) (jQ l new λl'=>cZ id H b .dead λH=>cC H (.cells l') λb' H=>k (.slice b' 0 need 0 size) H) (no 0)) (λ_ _=>no 0)) (no 0)) (no 0)) (no 0))=_;simp only[ax,bI,my,pq,if_true,aW,jV,fu];rfl
theorem iE{size n b o len q sz}{new}(h:q<len+n):rM id size n new b o len (q+1) sz H k=bA id new (if len+n<=1073741824then eL id H b o (len*size) λl=>bA id l (cC H (.cells (l++new)) λb' H=>k (.slice b' 0 (len+n) 0 size) H)else no 0):=by
 show bA id new (av (Yg len n) λneed=>aH (Yb need 1073741824) (aH (Yb need q) (dS id H b (Yg o (Ym len size)) new λH=>k (.slice b o need (q+1) sz) H) (eL id H b o (Ym len size) λl=>bA id l (jQ l new λl'=>cC H (.cells l') λb' H=>k (.slice b' 0 need 0 size) H))) (no 0))=_;have hn:¬Yg len n<=q:=by simp_all
 simp only[ax,bI,my,fu,if_neg hn];rfl
@[congr]theorem aaj{size n n' b o len cp sz}{new new'}(h:n=n')(h':new=new'):rM id size n new b o len cp sz H k=rM id size n' new' b o len cp sz H k:=by simp_all
theorem aan{m a b}{f}:gv id (.add m) a b f=f ((a+b)%m):=ax _ _
theorem aat{m a b}{f}:gv id (.sub m) a b f=f ((a+(m-b))%m):=ax _ _
theorem aap{m a b}{f}:gv id (.mul m) a b f=f (a*b%m):=ax _ _
theorem Zt{a b}:(dW .eq a b=true)=(a=b):=pq
theorem adF{a b}:(dW .ne a b=true)=¬(a=b):=by show(Bool.rec true false (YR a b)=true)=_;rw[<-pq];cases YR a b<;>simp
theorem Ro{o m a b}:(dW (.lt o m) a b=true)=((a+o)%m<(b+o)%m):=Ce
theorem DX{o m a b}:(dW (.le o m) a b=true)=((a+o)%m<=(b+o)%m):=my
theorem KB{o m a b}:(dW (.gt o m) a b=true)=((b+o)%m<(a+o)%m):=Ce
theorem KA{o m a b}:(dW (.ge o m) a b=true)=((b+o)%m<=(a+o)%m):=my
def nn(a:Nat):Prop:=a<9223372036854775808
theorem n_(a:Nat)(h:a<9223372036854775808:=by omega):nn a:=h
theorem l_(a:Nat)(h:a<9223372036854775808:=by omega):a<9223372036854775808:=h
theorem m_(a:Nat)(h:a<18446744073709551616:=by omega):a%18446744073709551616=a:=Nat.mod_eq_of_lt h
theorem s_(a:Nat)(h:0<a:=by omega):∃q,a=q+1:=⟨a-1,by omega⟩
theorem lP{a}(h:nn a):(a+9223372036854775808)%18446744073709551616=a+9223372036854775808:=by unfold nn at h;omega
theorem aeI{a b}(ha:nn a)(hb:nn b):(dW (.lt 9223372036854775808 18446744073709551616) a b=true)=(a<b):=by rw[Ro,lP ha,lP hb];simp
theorem aeG{a b}(ha:nn a)(hb:nn b):(dW (.le 9223372036854775808 18446744073709551616) a b=true)=(a<=b):=by rw[DX,lP ha,lP hb];simp
theorem adT{a b}(ha:nn a)(hb:nn b):(dW (.gt 9223372036854775808 18446744073709551616) a b=true)=(b<a):=by rw[KB,lP ha,lP hb];simp
theorem EM{a b}(ha:nn a)(hb:nn b):(dW (.ge 9223372036854775808 18446744073709551616) a b=true)=(b<=a):=by rw[KA,lP ha,lP hb];simp
theorem abT{a b}(h:b<=a)(ha:nn a):(a+(18446744073709551616-b))%18446744073709551616=a-b:=by unfold nn at ha;omega
theorem abi{a b}(ha:nn a)(hb:nn b):vO true 9223372036854775808 18446744073709551616 a b=max a b:=by unfold vO;rw[if_pos rfl,lP ha,lP hb];split<;>omega
theorem abn{a}(h:a<9223372036854775808):nn a:=h
theorem Pm{d}{f}:gO id none e d f=f d:=Yc rfl rfl
theorem Pn{a}{d}{f}:gO id (some a) e d f=cD id (aA a e) λkd n=>if 3<=kd then(if n<9223372036854775808then f n else no 0)else no 0:=by show aJ a e (λv=>cD id v λkd n=>aH (Yb 3 kd) (aH (WA n 9223372036854775808) (f n) (no 0)) (no 0))=_;simp only[aq,bI,my,Ce]
def aaW(p:Nat×V):V×V:=(.int 3 p.1,p.2)
def eR(D:List (Nat×V)):List (V×V):=D.map aaW
def Vu(D:List (Nat×V))(a:Nat):Option V:=(D.find? λp=>p.1==a).map (·.2)
def De:List (Nat×V)->Nat->V->List (Nat×V)|[],a,v=>[(a,v)]|p::D,a,v=>if p.1=a then(p.1,v)::D else p::De D a v
def AQ(o:Option V)(f:V->R)(z:R):R:=match o with|some v=>f v|none=>z
@[congr]theorem ZN{o o'}{f}{z}(h:o=o'):AQ o f z=AQ o' f z:=by rw[h]
theorem Jh{v}{f}{z}:AQ (some v) f z=f v:=Yc rfl rfl
theorem Jg{f}{z}:AQ none f z=z:=Yc rfl rfl
theorem AJ:∀{D}{a}{f}{z},uz id false (eR D) (.int 3 a) f z=AQ (Vu D a) f z
 |[],a,f,z=>rfl|(b,v)::D,a,f,z=>by
  show aH (YR a b) (f v) (uz id false (eR D) (.int 3 a) f z)=_;rw[bI,AJ];by_cases h:a=b;.subst h;simp[Vu,AQ]
  .have hb:(b==a)=false:=by simp;omega
   simp[Vu,h,hb]
theorem Gw:∀{D}{a}{y}{f},Gv id false (eR D) (.int 3 a) y f=f (eR (De D a y))
 |[],a,y,f=>rfl|(b,v)::D,a,y,f=>by
  show aH (YR a b) (f ((.int 3 b,y)::eR D)) (Gv id false (eR D) (.int 3 a) y λr=>f ((.int 3 b,v)::r))=_;rw[bI,Gw];by_cases h:a=b;.subst h;simp[De,eR,aaW]
  .have hb:¬b=a:=λh'=>h h'.symm;simp[De,eR,aaW,h,hb]
theorem VT{zero}{ok}{m x}{ks}:aQ (.look ks zero ok m x) id ph e H k=qI id (aA m e) (λb=>rP id (H.get b) λes=>uz id ks es (aA x e) (λv=>if ok=true then k (.cG [v,.bool true]) H else k v H) (if ok=true then k (.cG [zero,.bool false]) H else k zero H)) (if ok=true then k (.cG [zero,.bool false]) H else k zero H):=by show aJ m e (λm=>aJ x e λx=>qI id m (λb=>dv H b λbl=>rP id bl λes=>uz id ks es x (λv=>aH ok (k (.cG [v,.bool true]) H) (k v H)) (aH ok (k (.cG [zero,.bool false]) H) (k zero H))) (aH ok (k (.cG [zero,.bool false]) H) (k zero H)))=_;simp only[aq,aW,bI]
theorem VU{ks}{m x y}:aQ (.abk ks m x y) id ph e H k=GP id (aA m e) λb=>rP id (H.get b) λes=>isKey id (aA x e) (Gv id ks es (aA x e) (aA y e) λes'=>cZ id H b (.map es') λH=>k (.cG []) H):=by show aJ m e (λm=>aJ x e λx=>aJ y e λy=>GP id m λb=>dv H b λbl=>rP id bl λes=>isKey id x (Gv id ks es x y λes'=>cZ id H b (.map es') λH=>k (.cG []) H))=_;simp only[aq,aW]
@[congr]theorem ZJ{ks}{es es'}{x x'}{f}{z}(h:es=es')(h':x=x'):uz id ks es x f z=uz id ks es' x' f z:=by simp_all
@[congr]theorem abO{ks}{es es'}{x x' y y'}{f}(h:es=es')(h':x=x')(h2:y=y'):Gv id ks es x y f=Gv id ks es' x' y' f:=by simp_all
theorem NF{f}:iB id [] f=f 0 0:=Yc rfl rfl
theorem Jj{x}{l}{f}:iB id (.int 4 x::l) f=iB id l λlen n=>f (len+1) (x+256*n):=by show aH (YR 4 4) (iB id l λlen n=>av (Yg x (Ym 256 n)) λn'=>av (WN len) λlen'=>f len' n') (no 0)=_;simp only[ax];rfl
theorem SA{b off n}{f}:mv id H b off n f=uc id (H.get b) (λl=>fE id l off λr=>takeN id r n λq=>iB id q λ_ x=>f x) λlen x=>if off+n<=len then f ((x>>>(8*off))%256^n)else no 0:=by unfold mv;rw[aW];congr 1;funext len x;rw[bI];simp only[my,ax];rfl
theorem FD{z}{l c}:aQ (.mkSlice true z l c) id ph e H k=cD id (aA l e) λkl l=>cD id (aA c e) λkc c=>if 3<=kl then(if 3<=kc then(if l<=c then(if c<=16777216then cC H (.bytes c 0) λb H=>k (.slice b 0 l (c+1) 0) H else no 0)else no 0)else no 0)else no 0:=by show aJ l e (λl=>cD id l λkl l=>aJ c e λc=>cD id c λkc c=>aH (Yb 3 kl) (aH (Yb 3 kc) (aH (Yb l c) (aH (Yb c 16777216) (cC H (.bytes c 0) λb H=>av (WN c) λc1=>k (.slice b 0 l c1 0) H) (no 0)) (no 0)) (no 0)) (no 0))=_;simp only[aq,bI,my,ax]
theorem Jd{x}:aQ (.KD x) id ph e H k=bD id (aA x e) (λb o l _ _=>mv id H b o l λn=>k (.str l n) H) (k (.str 0 0) H):=by show aJ x e (λx=>bD id x (λb o l _ _=>mv id H b o l λn=>k (.str l n) H) (k (.str 0 0) H))=_;rw[aq]
theorem Je{x}:aQ (.KF x) id ph e H k=dZ id (aA x e) λl n=>if l<=16777216then cC H (.bytes l n) λb H=>k (.slice b 0 l 0 1) H else no 0:=by show aJ x e (λx=>dZ id x λl n=>aH (Yb l 16777216) (cC H (.bytes l n) λb H=>k (.slice b 0 l 0 1) H) (no 0))=_;simp only[aq,bI,my]
theorem V5{size}{x}{lo hi}:aQ (.slV size x lo hi none) id ph e H k=bD id (aA x e) (λb o len cp sz=>gO id lo e 0 λl=>gO id hi e len λh=>if l<=h then(if cp=0then(if h<=len then(if sz=size then k (.slice b (o+l*size) (h-l) 0 sz) H else no 0)else no 0)else(if h<=cp-1then(if cp-1=l then k (.slice b o (h-l) 1 0) H else k (.slice b (o+l*size) (h-l) (cp-1-l+1) 0) H)else no 0))else no 0) (gO id lo e 0 λl=>gO id hi e 0 λh=>if l=0then(if h=0then k .aC H else no 0)else no 0):=by show aJ x e (λx=>bD id x (λb o len cp sz=>gO id lo e 0 λl=>gO id hi e len λh=>aH (Yb l h) (av (QO h l) λd=>(Nat.rec (aH (Yb h len) (aH (YR sz size) (av (Yg o (Ym l size)) λo'=>k (.slice b o' d 0 sz) H) (no 0)) (no 0)) (λq _=>aH (Yb h q) (aH (YR q l) (k (.slice b o d 1 0) H) (av (Yg o (Ym l size)) λo'=>av (WN (QO q l)) λc'=>k (.slice b o' d c' 0) H)) (no 0)) cp)) (no 0)) (gO id lo e 0 λl=>gO id hi e 0 λh=>aH (YR l 0) (aH (YR h 0) (aH (YR 0 0) (k .aC H) (no 0)) (no 0)) (no 0)))=_;simp only[aq,ax,bI,my,pq,if_true];congr 1;funext b o len cp sz;cases cp with|zero=>rfl|succ q=>rfl
theorem V6{size}{x m}{lo hi}:aQ (.slV size x lo hi (some m)) id ph e H k=bD id (aA x e) (λb o len cp sz=>gO id lo e 0 λl=>gO id hi e len λh=>if l<=h then(gO id (some m) e 0 λm=>if h<=m then(if m<=(if cp=0then len else cp-1)then(if m=l then k (.slice b o (h-l) 1 0) H else k (.slice b (o+l*size) (h-l) (m-l+1) 0) H)else no 0)else no 0)else no 0) (gO id lo e 0 λl=>gO id hi e 0 λh=>gO id (some m) e 0 λm=>if l=0then(if h=0then(if m=0then k .aC H else no 0)else no 0)else no 0):=by
 show aJ x e (λx=>bD id x (λb o len cp sz=>gO id lo e 0 λl=>gO id hi e len λh=>aH (Yb l h) (av (QO h l) λd=>gO id (some m) e 0 λm=>aH (Yb h m) (aH (Yb m (Nat.rec len (λq _=>q) cp)) (aH (YR m l) (k (.slice b o d 1 0) H) (av (Yg o (Ym l size)) λo'=>av (WN (QO m l)) λc'=>k (.slice b o' d c' 0) H)) (no 0)) (no 0)) (no 0)) (gO id lo e 0 λl=>gO id hi e 0 λh=>gO id (some m) e 0 λm=>aH (YR l 0) (aH (YR h 0) (aH (YR m 0) (k .aC H) (no 0)) (no 0)) (no 0)))=_;have hc:∀(cp len),(Nat.rec len (λq _=>q) cp:Nat)=if cp=0then len else cp-1:=λcp len=>by cases cp<;>rfl
 simp only[aq,ax,bI,my,pq,hc];rfl
end
section
variable{cp:RC->au}{t:Nat->Option dr}{fuel d:Nat}{H:Heap}{k:K}{args caps:List V}{f F:Nat}{g:List V->Heap->K->R}
theorem oE(ht:t F=some (.nat g))(hf:f%2=0)(hF:f/2=F):aj (aT cp t fuel (d+1)) (.func f caps) args H k=g (args++caps) H k:=by show Nat.rec (motive:=λ_=>R) (jQ args caps λargs=>Iy t fuel (aT cp t fuel d) (Wm f 2) args H k) (λ_ _=>jQ caps args λargs=>Iy t fuel (aT cp t fuel d) (Wm f 2) args H k) (Yx f 2)=_;have h1:Yx f 2=0:=hf;have h2:Wm f 2=F:=hF;rw[h1,h2];rw[fu];show av F (λf=>Option.rec (no (100+f)) (λfn=>Vg fn fuel (aT cp t fuel d) (args++caps) H k) (t f))=_;rw[ax,ht];rfl
end
def Js(x off ml mx:Nat):Nat:=x%256^off+(mx+(x>>>(8*(off+ml)))*256^ml)*256^off
section
variable{id:Nat}{ph:dg}{e:Env}{H:Heap}{k:K}
theorem TU{b off}{m}{k}:dS id H b off m k=uc id (H.get b) (λl=>bA id m (setAt id m l off λl'=>cZ id H b (.cells l') k)) λlen x=>iB id m λml mx=>if off+ml<=len then cZ id H b (.bytes len (Js x off ml mx)) k else no 0:=by
 rw[JP];congr 1;funext len x;congr 1;funext ml mx;rw[bI];simp only[my,ax];have h:(Yg (Yx x (Nat.pow 256 off)) (Yt (Yg mx (Yt (WC x (Ym 8 (Yg off ml))) (Ym 8 ml))) (Ym 8 off)):Nat)=Js x off ml mx:=by rw[TK,TK];rfl
 simp_all
theorem abC{n size}{x}{lo hi mx}:aQ (.slA n size x lo hi mx) id ph e H k=ej id (aA x e) λb o=>gO id mx e n λm=>gO id hi e n λh=>gO id lo e 0 λl=>if l<=h then(if h<=m then(if m<=n then(if m=l then k (.slice b o (h-l) 1 0) H else k (.slice b (o+l*size) (h-l) (m-l+1) 0) H)else no 0)else no 0)else no 0:=by show aJ x e (λx=>ej id x λb o=>gO id mx e n λm=>gO id hi e n λh=>gO id lo e 0 λl=>aH (Yb l h) (aH (Yb h m) (aH (Yb m n) (av (QO h l) λd=>aH (YR m l) (k (.slice b o d 1 0) H) (av (Yg o (Ym l size)) λo'=>av (WN (QO m l)) λc'=>k (.slice b o' d c' 0) H)) (no 0)) (no 0)) (no 0))=_;simp only[aq,ax,bI,my,pq];rfl
theorem aas{half bits a b}{f}:gv id (.shr half bits) a b f=if a<half then(if b<=bits then f (a>>>b)else(if b<9223372036854775808then f 0 else no 0))else no 0:=by show aH (WA a half) (aH (Yb b bits) (av (WC a b) f) (aH (WA b 9223372036854775808) (f 0) (no 0))) (no 0)=_;simp only[ax,bI,my,Ce];rfl
theorem aar{m bits a b}{f}:gv id (.shl m bits) a b f=if b<=bits then f ((a<<<b)%m)else(if b<9223372036854775808then f 0 else no 0):=by show aH (Yb b bits) (av (Yx (Yt a b) m) f) (aH (WA b 9223372036854775808) (f 0) (no 0))=_;simp only[ax,bI,my,Ce];rfl
theorem aao{a b}{f}:gv id .bor a b f=f (a|||b):=ax _ _
end
def tv(l:List UInt8):V:=.str l.length (enc l)
def qX:au->Option (RC×RC)
 |.seq a b=>match qX a with|some r=>some r|none=>qX b
 |.cond _ a b=>match qX a with|some r=>some r|none=>qX b
 |.block _ a=>qX a|.loop a=>qX a|.kP _ _ a b=>some (a,b)|.Ct _ _ a b=>some (a,b)|_=>none
def abE(o:Option dr):RC×RC:=match o with|some (.code _ _ c)=>(qX c).getD (⟨0,0,.ret⟩,⟨0,0,.ret⟩)|_=>(⟨0,0,.ret⟩,⟨0,0,.ret⟩)
section
variable{id:Nat}{ph:dg}{e:Env}{H:Heap}{k:K}{fuel:Nat}{kn:KE}{kx:Nat->KE}
theorem It{g}{ps}{asL bo}{f}{caps}(hw:H.wf)(hg:aA g e=.func f caps)(hf:f%2=0){G}{v}(hcall:∀k:K,aj ph (.func f caps) [.sU (H.n+1)] ((H.new .mark).new (.loop 0 0 e ps asL bo)) k=k v G){e'}{ps'}{as' bo'}(hG:G.get (H.n+1)=.loop 0 0 e' ps' as' bo')(hGw:G.wf)(hGn:H.n+1<G.n):gG (.kP g ps asL bo) fuel ph e H kn kx=kn e (G.put (H.n+1) (.loop 3 0 e' ps' as' bo')):=by show aJ g e (λg=>yC 0 g λf caps=>Nat.rec (cC H .mark λ_ H=>cC H (.loop 0 0 e ps asL bo) λb H=>ph (.func f caps) [.sU b] H λ_ H=>dv H b λbl=>eU bl λst j e' ps' as' bo'=>Nat.rec (cZ 0 H b (.loop 3 j e' ps' as' bo') λH=>Nat.rec (kn e H) (λm _=>kx m e H) j) (λs _=>Nat.rec (no 10) (λ_ _=>cZ 0 H b (.loop 3 j e' ps' as' bo') λH=>Nat.rec (kn e H) (λm _=>kx m e H) j) s) st) (λ_ _=>no 14) (Yx f 2))=_;rw[aq,hg];show Nat.rec (motive:=λ_=>R) _ _ (Yx f 2)=_;have hf':Yx f 2=0:=hf;rw[hf'];rw[cE hw,cE (by rw[Heap.bd];omega),Heap.aO];refine(hcall _).trans ?_;rw[aW,hG];show cZ 0 G (H.n+1) (.loop 3 0 e' ps' as' bo') (λH=>kn e H)=_;rw[eW hGw hGn]
theorem pQ{cp}{t}{d b}{args}:aj (aT cp t fuel (d+1)) (.sU b) args H k=Zv cp fuel (aT cp t fuel d) b args H k:=Yc rfl rfl
theorem xd{ops}:gG (.aa0 ops) fuel ph e H kn kx=bQ ph H.n ops e H [] [] kn:=by rfl
variable{n0:Nat}{l:List uQ}{fl st:List (Nat×Nat)}{dd:Option Slot}{i bf:Nat}{ad:Arg}{op:lk}
theorem qV:bQ ph n0 [] e H fl st kn=kn e H:=Yc rfl rfl
theorem ia:bQ ph n0 (⟨id,dd,none,0,i,bf,ad,op⟩::l) e H fl st kn=aQ op id ph e H λv H'=>bQ ph n0 l (dD dd v e) H' fl st kn:=by show aQ op id ph e H (λv H'=>cj dd v e λe'=>bQ ph n0 l e' H' fl st kn)=_;simp only[ck]
theorem mO{id bf b}{k}:dM id bf b [] k=k:=Yc rfl rfl
theorem Dr{id bf b i' b'}{l}{k}:dM id bf b ((i',b')::l) k=if Nat.testBit bf i'=true then dM id bf b l k else if b=b' then no 0 else dM id bf b l k:=by show aH (Nat.testBit bf i') (dM id bf b l k) (aH (YR b b') (no 0) (dM id bf b l k))=_;rw[bI,bI];simp
theorem xg{b o}(hb:aA ad e=.ptr b o)(hlt:b<n0){v}(hop:∀k:K,aQ op id ph e H k=k v H)(hst:∀k:R,dM id bf b st k=k):bQ ph n0 (⟨id,dd,none,2,i,bf,ad,op⟩::l) e H fl st kn=bQ ph n0 l (dD dd v e) H ((i,b)::fl) st kn:=by show aJ ad e (λa=>nE id a λob=>Option.rec (no 0) (λb=>aH (WA b n0) (dM id bf b st (aQ op id ph e H λv H'=>cj dd v e λe'=>bQ ph n0 l e' H ((i,b)::fl) st kn)) (no 0)) ob)=_;rw[aq,hb];show aH (WA b n0) (dM id bf b st (aQ op id ph e H λv H'=>cj dd v e λe'=>bQ ph n0 l e' H ((i,b)::fl) st kn)) (no 0)=_;rw[bI,if_pos (by simp_all),hst,hop,ck]
end
section
variable{ph:dg}{e:Env}{H:Heap}{kn:KE}{kx:Nat->KE}{n0 id:Nat}{l:List uQ}{hs:List Heap}{bs:List Nat}{dd:Option Slot}{i bf fuel:Nat}{ad:Arg}{op:lk}
theorem Er{ops}:gG (.ab9 ops) fuel ph e H kn kx=dm ph H.n ops e H [] [] kn:=by rfl
theorem xi:dm ph n0 [] e H hs bs kn=kn e H:=Yc rfl rfl
theorem fY:dm ph n0 (⟨id,dd,none,0,i,bf,ad,op⟩::l) e H hs bs kn=aQ op id ph e H λv H'=>dm ph n0 l (dD dd v e) H' hs bs kn:=by show aQ op id ph e H (λv H'=>cj dd v e λe'=>dm ph n0 l e' H' hs bs kn)=_;simp only[ck]
theorem sf{b o}(hb:aA ad e=.ptr b o)(hlt:b<n0){v}(hop:∀k:K,aQ op id ph e H k=k v H)(hsm:∀k:R,pF b (H.get b) hs k=k):dm ph n0 (⟨id,dd,none,5,i,bf,ad,op⟩::l) e H hs bs kn=dm ph n0 l (dD dd v e) H hs (b::bs) kn:=by show aJ ad e (λa=>nE id a λob=>Option.rec (no 0) (λb=>aH (WA b n0) (dv H b λx=>pF b x hs (aQ op id ph e H λv _=>cj dd v e λe'=>dm ph n0 l e' H hs (b::bs) kn)) (no 0)) ob)=_;rw[aq,hb];show aH (WA b n0) (dv H b λx=>pF b x hs (aQ op id ph e H λv _=>cj dd v e λe'=>dm ph n0 l e' H hs (b::bs) kn)) (no 0)=_;rw[bI,if_pos (show WA b n0=true from by simp_all),aW,hsm,hop,ck]
theorem jn{v}{H'}(hop:∀k:K,aQ op id ph e H k=k v H')(hsm:∀k:R,qH H H' bs k=k):dm ph n0 (⟨id,dd,none,6,i,bf,ad,op⟩::l) e H hs bs kn=dm ph n0 l (dD dd v e) H' (H::hs) bs kn:=by show aQ op id ph e H (λv H'=>qH H H' bs (cj dd v e λe'=>dm ph n0 l e' H' (H::hs) bs kn))=_;rw[hop,hsm,ck]
def Uw(x:eB):Prop:=∃l:List V,x=.cells l/\∀v∈l,∃k n,v=.int k n
theorem uI:∀{l}{k},(∀v∈l,∃k n,v=.int k n)->rq l l k=k|[],k,_=>rfl|v::l,k,h=>by obtain⟨q,n,rfl⟩:=h v (YL ..);show aH (YR q q) (aH (YR n n) (rq l l k) (no 0)) (no 0)=_;rw[bI,if_pos (show YR q q=true from by simp),bI,if_pos (show YR n n=true from by simp)];exact uI λw hw=>h w (YI _ hw)
theorem yi{x}{k}(h:Uw x):uH x x k=k:=by obtain⟨l,rfl,h⟩:=h;exact uI h
theorem kR{b}{x}(h:Uw x):∀{hs}{k},(∀G∈hs,G.get b=x)->pF b x hs k=k|[],k,_=>rfl|G::hs,k,hg=>by show dv G b (λy=>uH y x (pF b x hs k))=k;rw[aW,hg G (YL ..),yi h];exact kR h λG' h'=>hg G' (YI _ h')
theorem eT{H H'}:∀{bs}{k},(∀b∈bs,Uw (H.get b)/\H'.get b=H.get b)->qH H H' bs k=k|[],k,_=>rfl|b::bs,k,h=>by obtain⟨h1,h2⟩:=h b (YL ..);show dv H b (λx=>dv H' b λy=>uH y x (qH H H' bs k))=k;rw[aW,aW,h2,yi h1];exact eT λc hc=>h c (YI _ hc)
end
attribute[go_sem ↓]JE N3 Se Vf Vd Sa RZ Sd MU Sc Ve Iw Ix MV Es Et Iu ur BN abB VY VW VV Tc abv S9 Ta NA NB VX abu abw abx VS VK VL VM VJ abA VH SY VQ VN VO aeK abz aby SZ SX Nz Jc V0 VZ VT VU MW IA KW idx_eq NF Jj SA FD Jd Je V5 V6 Pm Pn aan aat aap SB pj abG Cv NR NQ iP AW TU abC aas aar aao l4 iE cE eW yD JU Uc Ub CV cq ek Ua Om T9 Ud On JW GL JZ JY CT GN JX GM JV AB IM AF Ni EX IP Nh IN Ng I4 Nw I6 FA I7 Nv I5 aa9 aa8 aa6 aa5 fL L3 Pg lr HE SQ FB eV eF N0 sF dQ AJ Gw Jh Jg To Tp Tq Jx
attribute[go_sem]List.append_nil List.nil_append List.cons_append Zt adF aeI aeG adT EM abT abi abn Jr Jq V9 V8 fk Slot.mk.injEq and_true and_false true_and false_and not_true_eq_false not_false_eq_true if_true if_false Nat.zero_shiftRight Nat.zero_mod Nat.add_zero Nat.zero_add Nat.zero_mul Nat.mul_one Nat.one_mul Ya YC Bool.not_true Bool.not_false Bool.false_eq_true Bool.true_eq_false eq_self YG YQ List.length_map List.length_append List.set_cons_succ List.set_cons_zero List.map_cons List.map_nil List.take_succ_cons List.take_zero List.take_nil List.drop_succ_cons List.drop_zero List.drop_nil Heap.aG Heap.aF Heap.bH Heap.bd Heap.aV Heap.aO Heap.iX Heap.SI Heap.GX Heap.EO Heap.eE Heap.CP Heap.GI Heap.GJ Heap.nC
attribute[go_sem]reduceCtorEq ZA ZB ZC ZD ZF ZG ZH
attribute[go_sem ↓]reduceIte
open Go.RowKit
open Classical
noncomputable def yH(N:Nat)(v:Value):V:=match mS v with|some u=>u|none=>match v with|.slice (some a) l cap=>if l<=cap then(if a.spot=none/\a.block<N then .slice a.block a.off l (cap+1) 0 else if cap=0then .slice N a.off 0 1 0 else .cG [])else .cG []|.pointer (some a)=>if a.spot=none/\a.block<N then .ptr a.block a.off else .cG []|.map (some b)=>if b<N then .map b else .cG []|_=>.cG []
noncomputable def sC(N:Nat)(c:Array Value)(fr:Nat×Nat):List V:=c.toList.mapIdx λi v=>if fr.1<=i/\i<fr.2then .cG []else yH N v
noncomputable def Oz(w:World)(b:Nat):eB:=if GB b then .dead else match w.heap[b]?with|some (.cells c _ fr)=>.view (sC w.heap.size c fr)|_=>.dead
noncomputable def oh(w:World):Nat->Heap|0=>H0|n+1=>(oh w n).new (Oz w n)
noncomputable def ft(w:World):Heap:=(oh w (w.heap.size+1)).mark
noncomputable def uF(w:World)(b:Nat):Option Nat:=if(Oz w b).alive then some b else none
theorem lZ(w):∀n,(oh w n).wf/\(oh w n).n=n/\∀b,(oh w n).get b=if b<n then Oz w b else .dead
 |0=>⟨λb h=>absurd h (Nat.not_lt_zero b),rfl,λb=>by rfl⟩|n+1=>by
  obtain⟨h1,h2,h3⟩:=lZ w n;refine⟨by unfold oh;rw[Heap.bd];omega,by unfold oh;rw[Heap.aO,h2],λb=>?_⟩;unfold oh;rw[Heap.aF h1,h2,h3];by_cases hb:b=n;.simp_all
  .rw[if_neg hb];by_cases hb2:b<n;.rw[if_pos hb2,if_pos (by omega)]
   .rw[if_neg hb2,if_neg (by omega)]
theorem O7(w):(ft w).wf:=by unfold ft;rw[Heap.eE];exact(lZ w _).1
theorem lq(w):(ft w).n=w.heap.size+1:=by unfold ft;rw[Heap.SI];exact(lZ w _).2.1
theorem zS(w):(ft w).bF=w.heap.size+1:=by unfold ft;rw[Heap.GX];exact(lZ w _).2.1
theorem BQ{w}{b}(h:w.heap.size<=b):Oz w b=.dead:=by unfold Oz;simp_all
theorem jZ(w)(b):(ft w).get b=Oz w b:=by
 unfold ft;rw[Heap.EO,(lZ w _).2.2];split;.rfl
 .rw[BQ (by omega)]
theorem tH{w}{b}(h:(Oz w b).alive):(∃c e fr,w.heap[b]?=some (.cells c e fr)/\Oz w b=.view (sC w.heap.size c fr))/\¬GB b:=by
 unfold Oz at h⊢;by_cases hg:GB b;.rw[if_pos hg]at h;exact h.elim
 .rw[if_neg hg]at h⊢;refine⟨?_,hg⟩;split at h;.rename_i c e fr hc;exact⟨c,e,fr,hc,rfl⟩
  .exact h.elim
theorem CU(w)(v)(h:(yH w.heap.size v).one=true):VR (mu (uF w) (ft w) w) (yH w.heap.size v) v:=by have hb:∀b,b<w.heap.size->(mu (uF w) (ft w) w).b b b:=λb hb=>⟨by rw[lq];omega,λha=>by rw[jZ]at ha;exact if_pos ha⟩;unfold yH at h⊢;cases hc:mS v with|some u=>exact(qQ hc).1|none=>
  rw[hc]at h;simp only at h⊢;split at h
  .rename_i a l cap;split at h
   .rename_i hl;rw[if_pos hl];split at h;.rename_i hs;rw[if_pos hs];obtain⟨b,off,spot⟩:=a;obtain⟨rfl,hbs⟩:=hs;exact⟨b,cap,off,none,rfl,hb b hbs,hl,⟨λq hq=>by omega,λh=>by omega⟩,Or.inl ⟨rfl,rfl⟩⟩
    .rename_i hs;rw[if_neg hs];split at h
     .rename_i h0;subst h0;obtain rfl:l=0:=by omega
      exact⟨a.block,0,a.off,a.spot,rfl,⟨by rw[lq];omega,λha=>by rw[jZ,BQ (YC _)]at ha;exact ha.elim⟩,YC _,⟨λq hq=>by omega,λh=>by omega⟩,YE rfl⟩
     .cases h
   .cases h
  .rename_i a;split at h;.rename_i hs;rw[if_pos hs];obtain⟨b,off,spot⟩:=a;simp only[VR];simp_all
   .cases h
  .split at h;.rename_i hs;rw[if_pos hs];simp only[VR];simp_all
   .cases h
  .cases h
theorem F6{N}{c}{fr}{i}{cv}(h:c[i]?=some cv)(hf:¬(fr.1<=i/\i<fr.2)):(sC N c fr)[i]?=some (yH N cv):=by unfold sC;rw[YM1,Yr,h,Option.map_some,if_neg hf]
section
variable{P:Program}{base:Nat}{w0 w w':World}{rho:Nat->Option Nat}{H H':Heap}
theorem PR.late(h:PR P base w0 rho H w)(hbl:Below w.heap.size w w'){bl:eB}{o:Obj}{g:Nat}(hn:H'.n=H.n+1)(hw:H'.bF=H.bF)(hg:H'.get H.n=bl)(ho:∀j,j≠H.n->H'.get j=H.get j)(ha:bl.alive)(hgs:w.heap.size<=g)(hnew:w'.heap[g]?=some o)(hb:BR P (mu rho H w) bl o):PR P base w0 (λb=>if b=H.n then some g else rho b) H' w'/\Ext rho H w (λb=>if b=H.n then some g else rho b) H' w':=by
 have hlt:=h.lt;have hgl:g<w'.heap.size:=(YO.1 hnew).1;have hE:Ext rho H w (λb=>if b=H.n then some g else rho b) H' w':=by
  refine⟨by omega,by omega,hbl.size,λb hb _=>⟨ho b (by omega),by simp[QZ hb]⟩,λb c hb hr=>?_,λb c hr _=>?_,λb hb hal=>?_,λb c hb hr=>?_,λc hc _=>hbl.block c hc,λb hm=>?_,λc cs e fr hc=>⟨cs,e,fr,(hbl.block c (YO.1 hc).1).trans hc,rfl⟩,λc r hc=>⟨r,(hbl.block c (YO.1 hc).1).trans hc⟩⟩;.simpa[QZ hb]using hr
  .have:=hlt b c hr;simp[QZ this,hr]
  .rwa[ho b (by omega)]at hal
  .by_cases hb':b=H.n;.simp[hb']at hr;omega
   .simp[hb']at hr;have:=hlt b c hr;omega
  .have hb':b≠H.n:=λe=>by subst e;rw[h.out H.n (YC _)]at hm;cases hm
   exact⟨(ho b hb').trans hm,by simp[hb'],λc hc=>hbl.block c (h.jM b c hc).2.2.1⟩
 refine⟨⟨h.below.trans (hbl.mono h.cS),Ys h.cS hbl.size,by have:=h.wn;omega,λb c hr=>?_,λb b' c hr hr'=>?_,λb c hr=>?_,λb hb'=>?_,h.gl.step hE⟩,hE⟩
 .by_cases hb':b=H.n;.subst hb';simp at hr;subst hr;exact⟨by omega,Ys h.cS hgs,hgl,by rw[hg];exact ha⟩
  .simp[hb']at hr;obtain⟨h1,h2,h3,h4⟩:=h.jM b c hr;exact⟨by omega,h2,Nat.lt_of_lt_of_le h3 hbl.size,by rw[ho b hb'];exact h4⟩
 .by_cases h1:b=H.n<;>by_cases h2:b'=H.n<;>simp[h1,h2]at hr hr';.omega
  .have:=(h.jM b' c hr').2.2.1;omega
  .have:=(h.jM b c hr).2.2.1;omega
  .exact h.inj b b' c hr hr'
 .by_cases hb':b=H.n;.subst hb';simp at hr;subst hr;exact⟨o,hnew,by rw[hg];exact hb.mono hE.mu⟩
  .simp[hb']at hr;obtain⟨o',h1,h2⟩:=h.cV b c hr;refine⟨o',(hbl.block c (h.jM b c hr).2.2.1).trans h1,?_⟩;rw[ho b hb'];exact h2.mono hE.mu
 .rw[ho b (by omega)];exact h.out b (by omega)
end
section
variable{P:Program}
theorem PR.ft(w:World)(hg:GQ w/\∀c,GB c->c<w.heap.size:=by exact Gno):PR P 0 w (uF w) (Ev.ft w) w:=by
 have hr:∀b c,uF w b=some c->b=c/\(Oz w b).alive:=λb c h=>by
  unfold uF at h;split at h;.rename_i ha;cases h;exact⟨rfl,ha⟩
  .cases h
 refine⟨Below.refl _ _,Ya _,by rw[zS,lq];exact YC _,λb c h=>?_,λb b' c h h'=>(hr _ _ h).1.trans (hr _ _ h').1.symm,λb c h=>?_,λb hb=>?_,hg.1,hg.2,λb c h=>?_⟩;.obtain⟨rfl,ha⟩:=hr _ _ h;obtain⟨⟨cs,e,fr,h1,h2⟩,_⟩:=tH ha;have hlt:=(YO.1 h1).1;exact⟨by rw[lq];omega,Ya _,hlt,by rw[jZ];exact ha⟩
 .obtain⟨rfl,ha⟩:=hr _ _ h;obtain⟨⟨cs,e,fr,h1,h2⟩,_⟩:=tH ha;refine⟨_,h1,?_⟩;rw[jZ,h2];refine⟨cs,e,fr,rfl,λi v hi ho=>?_⟩;unfold sC at hi;rw[YM1,Yr]at hi;obtain⟨cv,h3,h4⟩:=Option.map_eq_some_iff.1 hi;split at h4;.subst h4;cases ho
  .rename_i hf;subst h4;exact⟨⟨cv,h3,CU w cv ho⟩,hf⟩
 .rw[lq]at hb;rw[jZ,BQ (by omega)]
 .obtain⟨rfl,ha⟩:=hr _ _ h;exact(tH ha).2
end
end Go.Ev
end
