/- Lg: a part of the evaluator,of its logic,or of the laws' walk in it. -/
import Derived.Test.YtabnemidjklolaaGreatDoorEvD
open Nat renaming le_refl→YC,beq→YN,zero_le→Ya,ble→Yb,add→Yf,mul→Ym,le_trans→Yq,shiftLeft→Yt,mod→Yx,blt→Yz,shiftRight→WC,succ→WN,ble_eq_true_of_le→WU,div→Wm,sub→QN,le_of_lt→Qc,ne_of_lt→Qk
open Or renaming inr→YD
open List renaming length_cons→YG,mem_cons_of_mem→YI,mem_cons_self→YM,length_nil→YR,getElem?_mapIdx→YN1
open Array renaming getElem?_eq_some_iff→YP,getElem?_toList→Yr
open Eq renaming trans→Yc
set_option linter.unusedVariables false
set_option linter.unusedSimpArgs false
set_option linter.unusedSectionVars false
section
namespace Go.Ev
def HT.has:HT->Nat->Prop|.e,_=>False|.n _ _ _,0=>True|.n _ l r,j+1=>if j%2=0then l.has (j/2)else r.has (j/2)
def HT.put(x:ep):HT->Nat->HT|.e,_=>.n x .e .e|.n _ l r,0=>.n x l r|.n u l r,j+1=>if j%2=0then .n u (l.put x (j/2)) r else .n u l (r.put x (j/2))
def HT.can:HT->Nat->Prop|.e,k=>k=0|.n _ _ _,0=>True|.n _ l r,j+1=>if j%2=0then l.can (j/2)else r.can (j/2)
theorem HT.BB:∀(t:HT)(k:Nat),t.has k->t.can k
 |.e,_,h=>h.elim|.n _ _ _,0,_=>trivial|.n _ l r,j+1,h=>by
  simp only[HT.has,HT.can]at h⊢;split;.rename_i hj;rw[if_pos hj]at h;exact BB l _ h
  .rename_i hj;rw[if_neg hj]at h;exact BB r _ h
theorem HT.wu:∀(t:HT)(k:Nat),(∀j,j<k->t.has j)->t.can k
 |.e,k,h=>by cases k with|zero=>rfl|succ k=>exact(h 0 (by omega)).elim
 |.n _ _ _,0,_=>trivial|.n u l r,j+1,h=>by
  simp only[HT.can];split;.rename_i hj;refine wu l _ λi hi=>?_;have:=h (2*i+1) (by omega);simp only[HT.has]at this;rw[if_pos (by omega),show 2*i/2=i by omega]at this;exact this
  .rename_i hj;refine wu r _ λi hi=>?_;have:=h (2*i+1+1) (by omega);simp only[HT.has]at this;rw[if_neg (by omega),show(2*i+1)/2=i by omega]at this;exact this
theorem HT.vK{x:ep}:∀(t:HT)(k:Nat)(c:HT->R),t.can k->t.set x k c=c (t.put x k)
 |.e,k,c,h=>by simp only[HT.can]at h;subst h;rfl|.n _ _ _,0,_,_=>rfl|.n u l r,j+1,c,h=>by
  simp only[HT.can]at h;show Nat.rec (motive:=λ_=>R) (l.set x (j/2) λl'=>c (.n u l' r)) (λ_ _=>r.set x (j/2) λr'=>c (.n u l r')) (j%2)=_;simp only[HT.put];by_cases hj:j%2=0;.rw[if_pos hj]at h⊢;rw[hj];exact vK l _ _ h
  .rw[if_neg hj]at h⊢;rw[show j%2=1by omega];exact vK r _ _ h
theorem HT.aH{x:ep}:∀(t:HT)(k j:Nat),t.can k->(t.put x k).get j=if j=k then x else t.get j
 |.e,k,j,h=>by simp only[HT.can]at h;subst h;cases j with|zero=>rfl|succ j=>simp only[HT.put,HT.cP,HT.uk];simp
 |.n u l r,0,j,_=>by cases j with|zero=>rfl|succ j=>simp only[HT.put,HT.cP];simp
 |.n u l r,k+1,j,h=>by
  simp only[HT.can]at h;by_cases hk:k%2=0;.rw[if_pos hk]at h;simp only[HT.put,if_pos hk];cases j with|zero=>simp[HT.EG]|succ j=>
    simp only[HT.cP,aH l _ _ h];by_cases hj:j%2=0
    .simp only[if_pos hj];by_cases he:j=k;.subst he;simp
     .rw[if_neg (by omega),if_neg (by omega)]
    .simp only[if_neg hj];rw[if_neg (by omega)]
  .rw[if_neg hk]at h;simp only[HT.put,if_neg hk];cases j with|zero=>simp[HT.EG]|succ j=>
    simp only[HT.cP,aH r _ _ h];by_cases hj:j%2=0;.simp only[if_pos hj];rw[if_neg (by omega)]
    .simp only[if_neg hj];by_cases he:j=k;.subst he;simp
     .rw[if_neg (by omega),if_neg (by omega)]
theorem HT.vB{x:ep}:∀(t:HT)(k j:Nat),t.can k->((t.put x k).has j↔j=k\/t.has j)
 |.e,k,j,h=>by simp only[HT.can]at h;subst h;cases j with|zero=>simp[HT.put,HT.has]|succ j=>simp only[HT.put,HT.has];split<;>simp
 |.n u l r,0,j,_=>by cases j with|zero=>simp[HT.put,HT.has]|succ j=>simp[HT.put,HT.has]
 |.n u l r,k+1,j,h=>by
  simp only[HT.can]at h;by_cases hk:k%2=0;.rw[if_pos hk]at h;simp only[HT.put,if_pos hk];cases j with|zero=>simp[HT.has]|succ j=>
    simp only[HT.has];by_cases hj:j%2=0;.simp only[if_pos hj,vB l _ _ h];constructor<;>rintro(h|h)<;>first|exact YD h|(left;omega)
    .simp only[if_neg hj];constructor;.exact YD
     .rintro(h|h);.omega
      .exact h
  .rw[if_neg hk]at h;simp only[HT.put,if_neg hk];cases j with|zero=>simp[HT.has]|succ j=>
    simp only[HT.has];by_cases hj:j%2=0
    .simp only[if_pos hj];constructor;.exact YD
     .rintro(h|h);.omega
      .exact h
    .simp only[if_neg hj,vB r _ _ h];constructor<;>rintro(h|h)<;>first|exact YD h|(left;omega)
def Heap.wf(H:Heap):Prop:=∀b,b<H.n->H.t.has b
open Classical in noncomputable def Heap.put(H:Heap)(b:Nat)(x:ep):Heap:=if H.wf/\b<H.n then .mk H.n (if H.bF<=b then H.bF else b) (H.t.put x b)else H
open Classical in noncomputable def Heap.new(H:Heap)(x:ep):Heap:=.mk (H.n+1) H.bF (if H.wf then H.t.put x H.n else H.t)
section
variable{H:Heap}{b:Nat}{x y:ep}
theorem Heap.mZ(h:H.wf)(hb:b<H.n):H.put b x=.mk H.n (if H.bF<=b then H.bF else b) (H.t.put x b):=if_pos ⟨h,hb⟩
theorem Heap.BV(h:H.wf):H.new x=.mk (H.n+1) H.bF (H.t.put x H.n):=by unfold Heap.new;rw[if_pos h]
theorem Heap.aS:(H.put b x).n=H.n:=by unfold Heap.put;split<;>rfl
theorem Heap.aQ:(H.new x).n=H.n+1:=Yc rfl rfl
theorem Heap.nx:(H.new x).bF=H.bF:=Yc rfl rfl
theorem Heap.CJ(h:H.wf)(hb:b<H.n):(H.put b x).bF=if H.bF<=b then H.bF else b:=by rw[Heap.mZ h hb];rfl
theorem Heap.wf.can(h:H.wf)(hb:b<=H.n):H.t.can b:=by
 rcases Nat.lt_or_eq_of_le hb with hb|rfl;.exact H.t.BB b (h b hb)
 .exact H.t.wu _ h
theorem Heap.bu:(H.put b x).wf=H.wf:=by
 by_cases h:H.wf/\b<H.n;.rw[Heap.mZ h.1 h.2];exact propext ⟨λ_=>h.1,λ_ j hj=>(HT.vB _ _ _ (h.1.can (Qc h.2))).2 (YD (h.1 j hj))⟩
 .unfold Heap.put;rw[if_neg h]
theorem Heap.aZ:(H.new x).wf=H.wf:=by
 by_cases h:H.wf;.rw[Heap.BV h];exact propext ⟨λ_=>h,λ_ j hj=>(HT.vB _ _ _ (h.can (YC _))).2 (by
   have:j<H.n+1:=hj;rcases Nat.lt_or_ge j H.n with h'|h';.exact YD (h j h')
   .exact Or.inl (by omega))⟩
 .refine propext ⟨λh2=>absurd (λj hj=>?_) h,λh2=>absurd h2 h⟩;have:=h2 j (Nat.lt_succ_of_lt hj);unfold Heap.new at this;rw[if_neg h]at this;exact this
theorem Heap.aH(h:H.wf)(hb:b<H.n)(j:Nat):(H.put b x).get j=if j=b then x else H.get j:=by rw[Heap.mZ h hb];exact HT.aH _ _ _ (h.can (Qc hb))
theorem Heap.aG(h:H.wf)(j:Nat):(H.new x).get j=if j=H.n then x else H.get j:=by rw[Heap.BV h];exact HT.aH _ _ _ (h.can (YC _))
theorem eU{id}{k}(h:H.wf)(hb:b<H.n):cZ id H b x k=k (H.put b x):=by rw[Heap.mZ h hb];cases H with|mk n bF t=>
  show aI (Yz b n) (HT.set x t b λt'=>aI (Yb bF b) (k (.mk n bF t')) (k (.mk n b t'))) (no 0)=_;have hb':=hb;have h1:Yz b n=true:=WU hb';rw[h1];rw[HT.vK t _ _ (h.can (Qc hb))];show aI (Yb bF b) _ _=k (.mk n (if bF<=b then bF else b) (t.put x b));by_cases hw:bF<=b;.rw[WU hw,if_pos hw];rfl
  .have:Yb bF b=false:=by cases hc:Yb bF b with|false=>rfl|true=>exact absurd (Nat.le_of_ble_eq_true hc) hw
   rw[this,if_neg hw];rfl
theorem cD{k}(h:H.wf):cA H x k=k H.n (H.new x):=by rw[Heap.BV h];cases H with|mk n bF t=>show HT.set x t n (λt'=>av (WN n) λn'=>k n (.mk n' bF t'))=_;rw[HT.vK t n _ (h.can (YC n)),ax];rfl
end
theorem HT.iU{x y:ep}:∀(t:HT)(k:Nat),t.can k->(t.put x k).put y k=t.put y k
 |.e,k,h=>by simp only[HT.can]at h;subst h;rfl|.n _ _ _,0,_=>rfl|.n u l r,k+1,h=>by
  simp only[HT.can]at h;simp only[HT.put];by_cases hk:k%2=0;.rw[if_pos hk]at h;simp only[if_pos hk,HT.put,iU l _ h]
  .rw[if_neg hk]at h;simp only[if_neg hk,HT.put,iU r _ h]
theorem Heap.iU{H:Heap}{b:Nat}{x y:ep}:(H.put b x).put b y=H.put b y:=by
 by_cases h:H.wf/\b<H.n
 .have h1:(H.put b x).wf:=by rw[Heap.bu];exact h.1
  have h2:b<(H.put b x).n:=by rw[Heap.aS];exact h.2
  rw[Heap.mZ h1 h2,Heap.mZ h.1 h.2,Heap.mZ h.1 h.2];show Heap.mk H.n (if(if H.bF<=b then H.bF else b)<=b then(if H.bF<=b then H.bF else b)else b) ((H.t.put x b).put y b)=Heap.mk H.n _ _;rw[HT.iU _ _ (h.1.can (Qc h.2))];congr 1;split<;>simp_all
 .have e:H.put b x=H:=if_neg h;rw[e]
theorem bG{c}{t f}:aI c t f=if c=true then t else f:=by cases c<;>rfl
@[simp]theorem BU{a b}:(Yz a b=true)=(a<b):=by simp
@[simp]theorem mi{a b:Nat}:(Yb a b=true)=(a<=b):=by simp
@[simp]theorem oZ{a b:Nat}:(YN a b=true)=(a=b):=by simp
end Go.Ev
end
section
namespace Go.Ev
section
variable{id:Nat}{x y:V}
@[congr]theorem abv{f}(h:x=y):cB id x f=cB id y f:=by rw[h]
@[congr]theorem Zs{f}(h:x=y):eK id x f=eK id y f:=by rw[h]
@[congr]theorem aby{f}(h:x=y):dU id x f=dU id y f:=by rw[h]
@[congr]theorem abx{f}(h:x=y):ec id x f=ec id y f:=by rw[h]
@[congr]theorem Xi{f}(h:x=y):lN id x f=lN id y f:=by rw[h]
@[congr]theorem Ui{f}{z}(h:x=y):bD id x f z=bD id y f z:=by rw[h]
@[congr]theorem abw{f}(h:x=y):Gz id x f=Gz id y f:=by rw[h]
@[congr]theorem Zt{f}{z}(h:x=y):qA id x f z=qA id y f z:=by rw[h]
@[congr]theorem abt{f}(h:x=y):iQ id x f=iQ id y f:=by rw[h]
@[congr]theorem abz{f}(h:x=y):zy id x f=zy id y f:=by rw[h]
@[congr]theorem Xh{f}(h:x=y):dK id x f=dK id y f:=by rw[h]
@[congr]theorem Za{f}(h:x=y):dP id x f=dP id y f:=by rw[h]
@[congr]theorem Y9{f}(h:x=y):isKey id x f=isKey id y f:=by rw[h]
@[congr]theorem Zg{f}(h:x=y):fX id x f=fX id y f:=by rw[h]
@[congr]theorem abM{b}{t f}(h:x=y):GO x b t f=GO y b t f:=by rw[h]
theorem yo{k n}{f}:cB id (.int k n) f=f k n:=Yc rfl rfl
theorem JC{b}{f}:eK id (.bool b) f=f b:=Yc rfl rfl
theorem TY{l n}{f}:dU id (.str l n) f=f l n:=Yc rfl rfl
theorem TX{b o}{f}:ec id (.ptr b o) f=f b o:=Yc rfl rfl
theorem CC{b o l c s}{f}:lN id (.slice b o l c s) f=f b o l c s:=Yc rfl rfl
theorem cm{b o l c s}{f}{z}:bD id (.slice b o l c s) f z=f b o l c s:=Yc rfl rfl
theorem ee{f}{z}:bD id .aD f z=z:=Yc rfl rfl
theorem TW{b}{f}:Gz id (.map b) f=f b:=Yc rfl rfl
theorem Oh{b}{f}{z}:qA id (.map b) f z=f b:=Yc rfl rfl
theorem TV{l}{f}:iQ id (.agg l) f=f l:=Yc rfl rfl
theorem TZ{l}{f}:zy id (.cG l) f=f l:=Yc rfl rfl
theorem JF{k n}{f}:dK id (.int k n) f=f [.int k n]:=Yc rfl rfl
theorem Gv{b}{f}:dK id (.bool b) f=f [.bool b]:=Yc rfl rfl
theorem JI{l n}{f}:dK id (.str l n) f=f [.str l n]:=Yc rfl rfl
theorem JH{b o}{f}:dK id (.ptr b o) f=f [.ptr b o]:=Yc rfl rfl
theorem Cz{b o l c s}{f}:dK id (.slice b o l c s) f=f [.slice b o l c s]:=Yc rfl rfl
theorem Gx{f}:dK id .aD f=f [.aD]:=Yc rfl rfl
theorem JG{b}{f}:dK id (.map b) f=f [.map b]:=Yc rfl rfl
theorem Gw{n}{l}{f}:dK id (.func n l) f=f [.func n l]:=Yc rfl rfl
theorem JE{l}{f}:dK id (.agg l) f=f l:=Yc rfl rfl
theorem Am{k n}{f}:dP id (.int k n) f=f:=Yc rfl rfl
theorem Iy{b}{f}:dP id (.bool b) f=f:=Yc rfl rfl
theorem Ao{l n}{f}:dP id (.str l n) f=f:=Yc rfl rfl
theorem Nc{b o}{f}:dP id (.ptr b o) f=f:=Yc rfl rfl
theorem EN{b o l c s}{f}:dP id (.slice b o l c s) f=f:=Yc rfl rfl
theorem IA{f}:dP id .aD f=f:=Yc rfl rfl
theorem Nb{b}{f}:dP id (.map b) f=f:=Yc rfl rfl
theorem Iz{n}{l}{f}:dP id (.func n l) f=f:=Yc rfl rfl
theorem Na{k n}{f}:isKey id (.int k n) f=f:=Yc rfl rfl
theorem II{b}{f}:fX id (.bool b) f=aI b (f 2) (f 3):=Yc rfl rfl
theorem Nq{b o}{f}:fX id (.ptr b o) f=f 11:=Yc rfl rfl
theorem IK{f}:fX id .pj f=f 10:=Yc rfl rfl
theorem Fq{b o l c s}{f}:fX id (.slice b o l c s) f=f 21:=Yc rfl rfl
theorem IL{f}:fX id .aD f=f 20:=Yc rfl rfl
theorem Np{b}{f}:fX id (.map b) f=f 31:=Yc rfl rfl
theorem IJ{f}:fX id .uU f=f 30:=Yc rfl rfl
theorem aaI{t f}:GO (.bool true) true t f=t:=Yc rfl rfl
theorem aaH{t f}:GO (.bool true) false t f=f:=Yc rfl rfl
theorem aaF{t f}:GO (.bool false) true t f=f:=Yc rfl rfl
theorem aaE{t f}:GO (.bool false) false t f=t:=Yc rfl rfl
end
theorem VN{s}{e}:aA (.s s) e=af s e:=Yc rfl rfl
theorem VM{v}{e}:aA (.c v) e=v:=Yc rfl rfl
section
variable{fuel id:Nat}{ph:dm}{e:Env}{H:Heap}{kn:KE}{kx:Nat->KE}{a b:au}{k:Env->Heap->R}{l:List CL}{d:Option Slot}{op:ld}{cls:Nat}
theorem RQ:gO .skip fuel ph e H kn kx=kn e H:=Yc rfl rfl
theorem UZ:gO (.seq a b) fuel ph e H kn kx=gO a fuel ph e H (λe H=>gO b fuel ph e H kn kx) kx:=Yc rfl rfl
theorem UX:gO (.qX l) fuel ph e H kn kx=jj ph l e H kn:=Yc rfl rfl
theorem RN:gO (.th l) fuel ph e H kn kx=cO ph l e H kn:=Yc rfl rfl
theorem RM{c}:gO (.cond c a b) fuel ph e H kn kx=eK 0 (aA c e) λq=>if q=true then gO a fuel ph e H kn kx else gO b fuel ph e H kn kx:=by show aK c e (λv=>eK 0 v λq=>aI q (gO a fuel ph e H kn kx) (gO b fuel ph e H kn kx))=_;rw[aq];congr 1;funext q;exact bG
theorem ML:gO (.block id a) fuel ph e H kn kx=gO a fuel ph e H kn λn e H=>if n=id+1then kn e H else kx n e H:=by show gO a fuel ph e H kn (λn e H=>aI (YN n (WN id)) (kn e H) (kx n e H))=_;congr 1;funext n e H;rw[bG];simp
theorem RO:gO (.exit id) fuel ph e H kn kx=kx (id+1) e H:=Yc rfl rfl
theorem UY:gO .ret fuel ph e H kn kx=kx 0 e H:=Yc rfl rfl
noncomputable def ko(a:au)(fuel:Nat)(ph:dm)(kx:Nat->KE)(n:Nat):KE:=Nat.rec (motive:=λ_=>Env->Heap->R) (λ_ _=>no 3) (λ_ ih e H=>gO a fuel ph e H ih kx) n
theorem RP:gO (.loop a) fuel ph e H kn kx=ko a fuel ph kx fuel e H:=Yc rfl rfl
theorem ak{n}:ko a fuel ph kx (n+1) e H=gO a fuel ph e H (ko a fuel ph kx n) kx:=Yc rfl rfl
theorem I7{s}{v}{e}:dC (some s) v e=kV s v e:=Yc rfl rfl
theorem I6{v}{e}:dC none v e=e:=Yc rfl rfl
theorem MM:jj ph [] e H k=k e H:=Yc rfl rfl
theorem Ih:jj ph (⟨id,d,none,cls,op⟩::l) e H k=aR op id ph e H λv H'=>jj ph l (dC d v e) H' k:=by show aR op id ph e H (λv H'=>cj d v e λe'=>jj ph l e' H' k)=_;simp only[ck]
theorem Ii{s}{b}:jj ph (⟨id,d,some (s,b),cls,op⟩::l) e H k=GO (af s e) b (aR op id ph e H λv H'=>jj ph l (dC d v e) H' k) (jj ph l (dC d (.cG []) e) H k):=by show jN s e (λv=>GO v b (aR op id ph e H λv H'=>cj d v e λe'=>jj ph l e' H' k) (cj d (.cG []) e λe'=>jj ph l e' H k))=_;simp only[ck,dX]
noncomputable def Heap.mark(H:Heap):Heap:=.mk H.n H.n H.t
noncomputable def Heap.dS(H:Heap)(w:Nat):Heap:=.mk H.n w H.t
theorem Heap.Sx:H.mark.n=H.n:=Yc rfl rfl
theorem Heap.GG:H.mark.bF=H.n:=Yc rfl rfl
theorem Heap.EF{b:Nat}:H.mark.get b=H.get b:=Yc rfl rfl
theorem Heap.er:H.mark.wf=H.wf:=Yc rfl rfl
theorem Heap.Cx{w:Nat}:H.mark.dS w=H.dS w:=Yc rfl rfl
theorem Heap.Gs{w:Nat}{x:ep}:(H.new x).dS w=(H.dS w).new x:=Yc rfl rfl
theorem Heap.Gt:H.dS H.bF=H:=by cases H;rfl
theorem Ie:cO ph [] e H k=k e H:=Yc rfl rfl
theorem Ej:cO ph (⟨id,d,none,0,op⟩::l) e H k=aR op id ph e H λv H'=>cO ph l (dC d v e) H' k:=by show aR op id ph e H (λv H'=>cj d v e λe'=>cO ph l e' H' k)=_;simp only[ck]
theorem Ek{s}{b}:cO ph (⟨id,d,some (s,b),0,op⟩::l) e H k=GO (af s e) b (aR op id ph e H λv H'=>cO ph l (dC d v e) H' k) (cO ph l (dC d (.cG []) e) H k):=by show jN s e (λv=>GO v b (aR op id ph e H λv H'=>cj d v e λe'=>cO ph l e' H' k) (cj d (.cG []) e λe'=>cO ph l e' H k))=_;simp only[ck,dX]
theorem ui:cO ph (⟨id,d,none,1,op⟩::l) e H k=aR op id ph e H.mark λv H'=>if H.n<=H'.bF then cO ph l (dC d v e) (H'.dS H.bF) k else no 0:=by cases H with|mk n bF t=>show aR op id ph e (.mk n n t) (λv H'=>Heap.rec (λn' wlo' t'=>aI (Yb n wlo') (cj d v e λe'=>cO ph l e' (.mk n' bF t') k) (no 0)) H')=_;congr 1;funext v H';cases H' with|mk n' wlo' t'=>show aI (Yb n wlo') (cj d v e λe'=>cO ph l e' (.mk n' bF t') k) (no 0)=_;rw[bG,ck];simp only[mi];rfl
theorem Bx{s}{b}:cO ph (⟨id,d,some (s,b),1,op⟩::l) e H k=GO (af s e) b (aR op id ph e H.mark λv H'=>if H.n<=H'.bF then cO ph l (dC d v e) (H'.dS H.bF) k else no 0) (cO ph l (dC d (.cG []) e) H k):=by have h1:=ui (id:=id) (ph:=ph) (e:=e) (H:=H) (k:=k) (l:=l) (d:=d) (op:=op);have h2:cO ph (⟨id,d,some (s,b),1,op⟩::l) e H k=jN s e (λv=>GO v b (cO ph (⟨id,d,none,1,op⟩::l) e H k) (cj d (.cG []) e λe'=>cO ph l e' H k)):=rfl;rw[h2,dX,ck,h1]
end
end Go.Ev
end
section
namespace Go.Ev
section
variable{id:Nat}
theorem SF{v}{l}{k}:nth id (v::l) 0 k=k v:=Yc rfl rfl
theorem Fs{v}{l}{i}{k}:nth id (v::l) (i+1) k=nth id l i k:=Yc rfl rfl
theorem iS:∀{l}{i}{v}{k},l[i]?=some v->nth id l i k=k v|[],i,v,k,h=>by simp_all|x::l,0,v,k,h=>by simp at h;subst h;rfl|x::l,i+1,v,k,h=>by rw[Fs];exact iS (by simp_all)
theorem eT:∀{l}{i}{k},i<=l.length->fC id l i k=k (l.drop i)|[],0,k,_=>rfl|[],i+1,k,h=>by simp_all|x::l,0,k,_=>rfl|x::l,i+1,k,h=>by show fC id l i k=_;rw[eT (by simp_all)];rfl
theorem eA:∀{l}{i}{k},i<=l.length->takeN id l i k=k (l.take i)|[],0,k,_=>rfl|[],i+1,k,h=>by simp_all|x::l,0,k,_=>rfl|x::l,i+1,k,h=>by show takeN id l i (λr=>k (x::r))=_;rw[eA (by simp_all)];rfl
theorem B5:∀{m l}{k},m.length<=l.length->over id m l k=k (m++l.drop m.length)|[],l,k,_=>rfl|x::m,[],k,h=>by simp_all|x::m,y::l,k,h=>by show over id m l (λq=>k (x::q))=_;rw[B5 (by simp_all)];rfl
theorem su:∀{m l}{i}{k},i+m.length<=l.length->setAt id m l i k=k (l.take i++(m++l.drop (i+m.length)))|m,[],0,k,h=>by show over id m [] k=_;rw[B5 (by omega)];simp|m,[],i+1,k,h=>by simp_all|m,y::l,0,k,h=>by show over id m (y::l) k=_;rw[B5 (by omega)];simp|m,y::l,i+1,k,h=>by show setAt id m l i (λq=>k (y::q))=_;rw[su (by simp at h;omega)];simp[Nat.add_right_comm]
theorem NW{x}{l}{i}{k}(h:i<l.length):setAt id [x] l i k=k (l.set i x):=by rw[su (by simp only[YG,YR];omega),List.set_eq_take_append_cons_drop,if_pos h];rfl
theorem Hl{k}:bA id [] k=k:=Yc rfl rfl
theorem lh{v}{l}{k}:bA id (v::l) k=dP id v (bA id l k):=Yc rfl rfl
end
@[congr]theorem Zr{id}{l m}{i j}{k}(h:l=m)(h':i=j):takeN id l i k=takeN id m j k:=by simp_all
@[congr]theorem Zn{id}{m m' l l'}{i j}{k}(h0:m=m')(h:l=l')(h':i=j):setAt id m l i k=setAt id m' l' j k:=by simp_all
@[congr]theorem Uu{id}{l m}{k}(h:l=m):bA id l k=bA id m k:=by rw[h]
@[congr]theorem U2{n m}{k}(h:n=m):av n k=av m k:=by rw[h]
noncomputable def FB(id:Nat)(bl:ep)(off:Nat)(k:V->R):R:=bRd id bl (λl=>nth id l off k) (λlen n=>if off<len then k (.int 4 (n>>>(8*off)&&&255))else no 0) λl=>nth id l off λv=>dP id v (k v)
noncomputable def uV(id:Nat)(bl:ep)(off n:Nat)(k:List V->R):R:=bRd id bl (λl=>fC id l off λr=>takeN id r n k) (λlen x=>if off+n<=len then k ((aC n (x>>>(8*off))).map eo)else no 0) λl=>fC id l off λr=>takeN id r n λq=>bA id q (k q)
@[congr]theorem abQ{id}{x y}{i j}{k}(h:x=y)(h':i=j):FB id x i k=FB id y j k:=by simp_all
@[congr]theorem abd{id}{x y}{i j n m}{k}(h:x=y)(h':i=j)(h2:n=m):uV id x i n k=uV id y j m k:=by simp_all
@[congr]theorem abH{id}{x y}{kc}{kb}(h:x=y):tV id x kc kb=tV id y kc kb:=by rw[h]
@[congr]theorem ZU{id}{x y}{k}(h:x=y):rK id x k=rK id y k:=by rw[h]
section
variable{id:Nat}{H:Heap}
theorem fK{l}{kc}{kb}:tV id (.cells l) kc kb=kc l:=Yc rfl rfl
theorem LQ{a b}{kc}{kb}:tV id (.bytes a b) kc kb=kb a b:=Yc rfl rfl
theorem O9{es}{k}:rK id (.map es) k=k es:=Yc rfl rfl
theorem Sr{b off}{k}:nE id H b off k=tV id (H.get b) (λl=>nth id l off k) λlen n=>if off<len then k (.int 4 (n>>>(8*off)&&&255))else no 0:=by unfold nE;rw[aX];congr 1;funext len n;rw[bG];simp only[BU,ax];rfl
theorem abc{b off}{k}:K2 id H b off k=FB id (H.get b) off k:=by unfold K2 FB;rw[aX];congr 1;funext len n;rw[bG];simp only[BU,ax];rfl
theorem Cd{b off n}{k}:FC id H b off n k=uV id (H.get b) off n k:=by unfold FC uV;rw[aX];congr 1;funext len x;rw[bG];simp only[mi,iP];rfl
theorem NM{l}{off}{k}:FB id (.cells l) off k=nth id l off k:=Yc rfl rfl
theorem NL{len n off}{k}:FB id (.bytes len n) off k=if off<len then k (.int 4 (n>>>(8*off)&&&255))else no 0:=Yc rfl rfl
theorem iM{l}{off n}{k}:uV id (.cells l) off n k=fC id l off λr=>takeN id r n k:=Yc rfl rfl
theorem AH{l}{off n}{k}:uV id (.view l) off n k=fC id l off λr=>takeN id r n λq=>bA id q (k q):=Yc rfl rfl
theorem oT{b off n}{k}:eH id H b off n k=tV id (H.get b) (λl=>fC id l off λr=>takeN id r n k) λlen x=>if off+n<=len then k ((aC n (x>>>(8*off))).map eo)else no 0:=by unfold eH;rw[aX];congr 1;funext len x;rw[bG];simp only[mi,iP];rfl
theorem Jw{b off}{m}{k}:dO id H b off m k=tV id (H.get b) (λl=>bA id m (setAt id m l off λl'=>cZ id H b (.cells l') k)) λlen x=>iw id m λml mx=>aI (Yb (Yf off ml) len) (av (Yf (Yx x (Nat.pow 256 off)) (Yt (Yf mx (Yt (WC x (Ym 8 (Yf off ml))) (Ym 8 ml))) (Ym 8 off))) λx'=>cZ id H b (.bytes len x') k) (no 0):=by rfl
theorem N7{b off}{m}{k}{l}(hb:H.get b=.cells l):dO id H b off m k=bA id m (setAt id m l off λl'=>cZ id H b (.cells l') k):=by unfold dO;rw[aX,hb];rfl
end
noncomputable def aj(ph:dm)(x:V)(args:List V)(H:Heap)(k:K):R:=ph x args H k
@[congr]theorem Y1{ph}{x y}{l m}{H G}{k}(h:x=y)(h':l=m)(h2:H=G):aj ph x l H k=aj ph y m G k:=by simp_all
section
variable{id:Nat}{ph:dm}{e:Env}{H:Heap}{k:K}
theorem aa8{x}:aR (.gJ x) id ph e H k=k (aA x e) H:=by show aK x e (λv=>k v H)=_;rw[aq]
theorem VF{c x y}:aR (.pick c x y) id ph e H k=eK id (aA c e) λb=>if b=true then k (aA x e) H else k (aA y e) H:=by show aK c e (λc=>eK id c λb=>aI b (aK x e λv=>k v H) (aK y e λv=>k v H))=_;simp only[aq,bG]
theorem VD{z}(h:H.wf):aR (.nP z) id ph e H k=k (.ptr H.n 0) (H.new (.cells z)):=cD (k:=λn H=>k (.ptr n 0) H) h
theorem VA{n}(h:H.wf):aR (.aaT n) id ph e H k=k (.ptr H.n 0) (H.new (.bytes n 0)):=cD (k:=λn H=>k (.ptr n 0) H) h
theorem SR(h:H.wf):aR .mkMap id ph e H k=k (.map H.n) (H.new (.map [])):=cD (k:=λn H=>k (.map n) H) h
theorem aa2{x}:aR (.box x) id ph e H k=dK id (aA x e) λl=>bA id l (cA H (.cells l) λn H=>k (.ptr n 0) H):=by show aK x e (λv=>dK id v λl=>bA id l (cA H (.cells l) λn H=>k (.ptr n 0) H))=_;rw[aq]
theorem SP{a}:aR (.cQ a) id ph e H k=ec id (aA a e) λb o=>K2 id H b o λv=>k v H:=by show aK a e (λa=>ec id a λb o=>K2 id H b o λv=>k v H)=_;rw[aq]
theorem SQ{n}{a}:aR (.cI n a) id ph e H k=ec id (aA a e) λb o=>FC id H b o n λl=>k (.agg l) H:=by show aK a e (λa=>ec id a λb o=>FC id H b o n λl=>k (.agg l) H)=_;rw[aq]
theorem Nu{a x}:aR (.ek a x) id ph e H k=ec id (aA a e) λb o=>dP id (aA x e) (dO id H b o [aA x e] λH=>k (.cG []) H):=by show aK a e (λa=>ec id a λb o=>aK x e λx=>dP id x (dO id H b o [x] λH=>k (.cG []) H))=_;simp only[aq]
theorem Nv{n}{a x}:aR (.jF n a x) id ph e H k=ec id (aA a e) λb o=>iQ id (aA x e) λl=>if l.length=n then dO id H b o l λH=>k (.cG []) H else no 0:=by show aK a e (λa=>ec id a λb o=>aK x e λx=>iQ id x λl=>aI (YN (ft l) n) (dO id H b o l λH=>k (.cG []) H) (no 0))=_;simp only[aq,bG,oZ,jO]
noncomputable def GC(v:V)(k:K)(H:Heap):R:=Kx (.c v) 0 (λ_ _ _ _=>0) Eg H k
theorem VE{x}:aR (.Fm x) id ph e H k=GC (aA x e) k H:=by show Kx x id ph e H k=_;unfold GC Kx;rw[aq,aq];rfl
@[congr]theorem Zu{x y}(h:x=y):GC x k H=GC y k H:=by rw[h]
theorem Oi{b o}:GC (.ptr b o) k H=k (.ptr b o) H:=Yc rfl rfl
theorem aa1{kd ky}{f}{x y}:aR (.bin kd ky f x y) id ph e H k=cB id (aA x e) λk1 a=>cB id (aA y e) λk2 b=>if k1=kd then(if k2=ky then gk id f a b λr=>k (.int kd r) H else no 0)else no 0:=by show aK x e (λx=>cB id x λk1 a=>aK y e λy=>cB id y λk2 b=>aI (YN k1 kd) (aI (YN k2 ky) (gk id f a b λr=>k (.int kd r) H) (no 0)) (no 0))=_;simp only[aq,bG,oZ]
theorem aa3{kd}{f}{x y}:aR (.cmp kd f x y) id ph e H k=cB id (aA x e) λk1 a=>cB id (aA y e) λk2 b=>if k1=kd then(if k2=kd then(if dQ f a b=true then k (.bool true) H else k (.bool false) H)else no 0)else no 0:=by show aK x e (λx=>cB id x λk1 a=>aK y e λy=>cB id y λk2 b=>aI (YN k1 kd) (aI (YN k2 kd) (aI (dQ f a b) (k (.bool true) H) (k (.bool false) H)) (no 0)) (no 0))=_;simp only[aq,bG,oZ]
theorem aa4{kc}{neg}{x y}:aR (.eqv kc neg x y) id ph e H k=fX id (aA x e) λa=>fX id (aA y e) λb=>if a/10=kc then(if b/10=kc then(if a=b then(if a%10=1then no 0 else k (.bool (!neg)) H)else k (.bool neg) H)else no 0)else no 0:=by
 show aK x e (λx=>fX id x λa=>aK y e λy=>fX id y λb=>aI (YN (Wm a 10) kc) (aI (YN (Wm b 10) kc) (aI (YN a b) (aI (YN (Yx a 10) 1) (no 0) (aI neg (k (.bool false) H) (k (.bool true) H))) (k (.bool neg) H)) (no 0)) (no 0))=_;have hn:aI neg (k (.bool false) H) (k (.bool true) H)=k (.bool (!neg)) H:=by cases neg<;>rfl
 simp only[aq,bG (c:=YN _ _),oZ,hn];rfl
theorem Vx{x}:aR (.uT x) id ph e H k=eK id (aA x e) λb=>k (.bool (!b)) H:=by show aK x e (λx=>eK id x λb=>aI b (k (.bool false) H) (k (.bool true) H))=_;rw[aq];congr 1;funext b;cases b<;>rfl
theorem Vq{off}{x}:aR (.gI off x) id ph e H k=ec id (aA x e) λb o=>k (.ptr b (o+off)) H:=by show aK x e (λx=>ec id x λb o=>av (Yf o off) λo'=>k (.ptr b o') H)=_;simp only[aq,ax];rfl
theorem Vr{off}{x}:aR (.MQ off x) id ph e H k=iQ id (aA x e) λl=>nth id l off λv=>k v H:=by show aK x e (λx=>iQ id x λl=>nth id l off λv=>k v H)=_;rw[aq]
theorem Vs{off n}{x}:aR (.MR off n x) id ph e H k=iQ id (aA x e) λl=>fC id l off λr=>takeN id r n λq=>k (.agg q) H:=by show aK x e (λx=>iQ id x λl=>fC id l off λr=>takeN id r n λq=>k (.agg q) H)=_;rw[aq]
theorem Vp{x}{i}:aR (.RT x i) id ph e H k=zy id (aA x e) λl=>nth id l i λv=>k v H:=by show aK x e (λx=>zy id x λl=>nth id l i λv=>k v H)=_;rw[aq]
theorem aa7{f}{caps}:aR (.mkF f caps) id ph e H k=k (.func f (caps.map (aA · e))) H:=by show oI caps e (λl=>k (.func f l) H)=_;rw[gZ]
theorem Vo{f}{args}:aR (.call f args) id ph e H k=aj ph (.func f []) (args.map (aA · e)) H k:=by show oI args e (λl=>ph (.func f []) l H k)=_;rw[gZ];rfl
theorem SM{x}{args}:aR (.Rf x args) id ph e H k=aj ph (aA x e) (args.map (aA · e)) H k:=by show aK x e (λx=>oI args e λl=>ph x l H k)=_;rw[aq,gZ];rfl
theorem KJ{n}:kU id n H k=if n<9223372036854775808then k (.int 3 n) H else no 0:=by unfold kU;rw[bG];simp
theorem Vw{x}:aR (.aeD x) id ph e H k=dU id (aA x e) λn _=>kU id n H k:=by show aK x e (λx=>dU id x λn _=>kU id n H k)=_;rw[aq]
theorem Vt{x}:aR (.ft x) id ph e H k=bD id (aA x e) (λ_ _ n _ _=>kU id n H k) (kU id 0 H k):=by show aK x e (λx=>bD id x (λ_ _ n _ _=>kU id n H k) (kU id 0 H k))=_;rw[aq]
theorem Vu{x}:aR (.BO x) id ph e H k=qA id (aA x e) (λb=>rK id (H.get b) λes=>kU id es.length H k) (kU id 0 H k):=by show aK x e (λx=>qA id x (λb=>dv H b λbl=>rK id bl λes=>av (BO es) λn=>kU id n H k) (kU id 0 H k))=_;simp only[aq,aX,ax,BP]
theorem aeG{kd o m}{mx}{x y}:aR (.mm kd o m mx x y) id ph e H k=cB id (aA x e) λk1 a=>cB id (aA y e) λk2 b=>if k1=kd then(if k2=kd then k (.int kd (vE mx o m a b)) H else no 0)else no 0:=by show aK x e (λx=>cB id x λk1 a=>aK y e λy=>cB id y λk2 b=>aI (YN k1 kd) (aI (YN k2 kd) (Fw o m mx a b λr=>k (.int kd r) H) (no 0)) (no 0))=_;simp only[aq,bG,oZ,xK]
end
section
variable{cp:RC->au}{t:Nat->Option df}{fuel d:Nat}{H:Heap}{k:K}{args caps:List V}{f F:Nat}{ps:List Slot}{res:List RV}{c:au}
noncomputable def tN(res:List RV)(k:K)(e:Env)(H:Heap):R:=xd res e H λl=>Jg l λv=>k v H
theorem ay(ht:t F=some (.code ps res c))(hf:f%2=0)(hF:f/2=F):aj (aU cp t fuel (d+1)) (.func f caps) args H k=fZ ps (args++caps) Eg λe=>gO c fuel (aU cp t fuel d) e H (tN res k) λn e H=>if n=0then tN res k e H else no 6:=by show Nat.rec (motive:=λ_=>R) (jJ args caps λargs=>Ij t fuel (aU cp t fuel d) (Wm f 2) args H k) (λ_ _=>jJ caps args λargs=>Ij t fuel (aU cp t fuel d) (Wm f 2) args H k) (Yx f 2)=_;have h1:Yx f 2=0:=hf;have h2:Wm f 2=F:=hF;rw[h1,h2];rw[fk];show av F (λf=>Option.rec (no (100+f)) (λfn=>U0 fn fuel (aU cp t fuel d) (args++caps) H k) (t f))=_;rw[ax,ht];show fZ ps (args++caps) Eg (λe=>gO c fuel (aU cp t fuel d) e H (tN res k) λn e H=>Nat.rec (tN res k e H) (λ_ _=>no 6) n)=_;congr 1;funext e;congr 1;funext n e H;cases n<;>rfl
@[congr]theorem Zo{l m}{e}{k}(h:l=m):fZ ps l e k=fZ ps m e k:=by rw[h]
@[congr]theorem aaB{x y}{k}(h:x=y):cA H x k=cA H y k:=by rw[h]
@[congr]theorem aaC{id b c}{x y}{k}(h':b=c)(h:x=y):cZ id H b x k=cZ id H c y k:=by simp_all
@[congr]theorem Zj{id}{l m}{k}(h:l=m):iw id l k=iw id m k:=by rw[h]
theorem NX{e}{k}:fZ [] [] e k=k e:=Yc rfl rfl
theorem Jl{s}{v}{ps}{l}{e}{k}:fZ (s::ps) (v::l) e k=fZ ps l (kV s v e) k:=by show Jm s v e (λe'=>fZ ps l e' k)=_;rw[sy]
theorem Tb{e}:tN [] k e H=k (.cG []) H:=Yc rfl rfl
theorem Tc{s}{e}:tN [.tmp s] k e H=k (af s e) H:=by show jN s e (λv=>k v H)=_;rw[dX]
theorem Td{s s'}{e}:tN [.tmp s,.tmp s'] k e H=k (.cG [af s e,af s' e]) H:=by show jN s e (λv=>jN s' e λv'=>k (.cG [v,v']) H)=_;rw[dX,dX]
theorem Jf{s s' s2}{e}:tN [.tmp s,.tmp s',.tmp s2] k e H=k (.cG [af s e,af s' e,af s2 e]) H:=by show jN s e (λv=>jN s' e λv'=>jN s2 e λv2=>k (.cG [v,v',v2]) H)=_;rw[dX,dX,dX]
end
end Go.Ev
end
section
namespace Go.Ev
section
variable{id:Nat}{ph:dm}{e:Env}{H:Heap}{k:K}
theorem idx_eq{i}{len}{f}:idx id i e len f=cB id (aA i e) λkd n=>if 3<=kd then(if n<len then(if n<9223372036854775808then f n else no 0)else no 0)else no 0:=by show aK i e (λv=>cB id v λkd n=>aI (Yb 3 kd) (aI (Yz n len) (aI (Yz n 9223372036854775808) (f n) (no 0)) (no 0)) (no 0))=_;simp only[aq,bG,mi,BU]
theorem aa6{size}{x i}:aR (.yZ size x i) id ph e H k=lN id (aA x e) λb o len _ _=>idx id i e len λn=>k (.ptr b (o+n*size)) H:=by show aK x e (λx=>lN id x λb o len _ _=>idx id i e len λn=>av (Yf o (Ym n size)) λo'=>k (.ptr b o') H)=_;simp only[aq,ax];rfl
theorem aa5{len size}{x i}:aR (.ixA len size x i) id ph e H k=ec id (aA x e) λb o=>idx id i e len λn=>k (.ptr b (o+n*size)) H:=by show aK x e (λx=>ec id x λb o=>idx id i e len λn=>av (Yf o (Ym n size)) λo'=>k (.ptr b o') H)=_;simp only[aq,ax];rfl
theorem SN{src dst c}{x}:aR (.wD src dst 0 c x) id ph e H k=cB id (aA x e) λk1 a=>if k1=src then k (.int dst (a%c)) H else no 0:=by show aK x e (λx=>cB id x λk1 a=>aI (YN k1 src) (av (Yx a c) λr=>k (.int dst r) H) (no 0))=_;simp only[aq,bG,oZ,ax];rfl
theorem MN{z}{f}:ku id e [] z f=f z:=Yc rfl rfl
theorem Il{off size}{a}{ps}{z}{f}:ku id e ((off,size,a)::ps) z f=dK id (aA a e) λl=>if l.length=size then setAt id l z off λz'=>ku id e ps z' f else no 0:=by show aK a e (λv=>dK id v λl=>aI (YN (ft l) size) (setAt id l z off λz'=>ku id e ps z' f) (no 0))=_;simp only[aq,bG,oZ,jO]
theorem SL{z}{ps}:aR (.build z ps) id ph e H k=ku id e ps z λl=>k (.agg l) H:=Yc rfl rfl
theorem Nt{len}{z}{ps}:aR (.jA false len z ps) id ph e H k=ku id e ps z λl=>bA id l (cA H (.cells l) λb H=>k (.slice b 0 len (len+1) 0) H):=Yc rfl rfl
theorem IQ{len}{z}{ps}:aR (.jA true len z ps) id ph e H k=ku id e ps z λl=>iw id l λln n=>cA H (.bytes ln n) λb H=>k (.slice b 0 len (len+1) 0) H:=Yc rfl rfl
theorem VH{neg}{x y}:aR (.Tn neg x y) id ph e H k=dU id (aA x e) λl1 n1=>dU id (aA y e) λl2 n2=>if l1=l2/\n1=n2 then k (.bool (!neg)) H else k (.bool neg) H:=by
 show aK x e (λx=>dU id x λl1 n1=>aK y e λy=>dU id y λl2 n2=>aI (YN l1 l2) (aI (YN n1 n2) (aI neg (k (.bool false) H) (k (.bool true) H)) (k (.bool neg) H)) (k (.bool neg) H))=_;have hn:aI neg (k (.bool false) H) (k (.bool true) H)=k (.bool (!neg)) H:=by cases neg<;>rfl
 simp only[aq,bG (c:=YN _ _),oZ,hn];congr 1;funext l1 n1;congr 1;funext l2 n2;by_cases h1:l1=l2<;>by_cases h2:n1=n2<;>simp[h1,h2]
theorem VG{x y}:aR (.Tj x y) id ph e H k=dU id (aA x e) λl1 n1=>dU id (aA y e) λl2 n2=>if l1+l2<9223372036854775808then k (.str (l1+l2) (n1+n2*256^l1)) H else no 0:=by show aK x e (λx=>dU id x λl1 n1=>aK y e λy=>dU id y λl2 n2=>av (Yf l1 l2) λl=>aI (Yz l 9223372036854775808) (av (Yf n1 (Yt n2 (Ym 8 l1))) λn=>k (.str l n) H) (no 0))=_;simp only[aq,ax,bG,BU,Tw];rfl
theorem dN{size b o l c s}{f}:cX id size H (.slice b o l c s) f=if l=0then f 0 []else FC id H b o (l*size) λm=>f l m:=by cases l<;>rfl
@[congr]theorem SB{size}{x y}{f}(h:x=y):cX id size H x f=cX id size H y f:=by rw[h]
theorem nh{a b}{n}:Nat.rec (motive:=λ_=>R) a (λ_ _=>b) n=if n=0then a else b:=by cases n<;>rfl
theorem aa{size}{s x}:aR (.app false size s x) id ph e H k=cX id size H (aA x e) λn new=>bD id (aA s e) (λb o len cp sz=>if n=0then k (aA s e) H else rH id size n new b o len cp sz H k) (if n=0then k (aA s e) H else bA id new (if n<=1073741824then cA H (.cells new) λb' H=>k (.slice b' 0 n 0 size) H else no 0)):=by show aK s e (λs=>aK x e λx=>cX id size H x λn new=>bD id s (λb o len cp sz=>Nat.rec (k s H) (λ_ _=>rH id size n new b o len cp sz H k) n) (Nat.rec (k s H) (λ_ _=>bA id new (aI (Yb n 1073741824) (cA H (.cells new) λb' H=>k (.slice b' 0 n 0 size) H) (no 0))) n))=_;simp only[aq,nh,bG,mi]
theorem lW{size n b len}{new}:rH id size n new b 0 len 0 size H k=bA id new (if len+n<=1073741824then tV id (H.get b) (λl=>if l.length=len*size then cZ id H b .dead λH=>cA H (.cells (l++new)) λb' H=>k (.slice b' 0 (len+n) 0 size) H else no 0) (λ_ _=>no 0)else no 0):=by show bA id new (av (Yf len n) λneed=>aI (Yb need 1073741824) (aI (YN size size) (aI (YN 0 0) (dv H b λbl=>tV id bl (λl=>aI (YN (ft l) (Ym len size)) (jJ l new λl'=>cZ id H b .dead λH=>cA H (.cells l') λb' H=>k (.slice b' 0 need 0 size) H) (no 0)) (λ_ _=>no 0)) (no 0)) (no 0)) (no 0))=_;simp only[ax,bG,mi,oZ,if_true,aX,jO,fk];rfl
theorem iB{size n b o len q sz}{new}(h:q<len+n):rH id size n new b o len (q+1) sz H k=bA id new (if len+n<=1073741824then eH id H b o (len*size) λl=>bA id l (cA H (.cells (l++new)) λb' H=>k (.slice b' 0 (len+n) 0 size) H)else no 0):=by
 show bA id new (av (Yf len n) λneed=>aI (Yb need 1073741824) (aI (Yb need q) (dO id H b (Yf o (Ym len size)) new λH=>k (.slice b o need (q+1) sz) H) (eH id H b o (Ym len size) λl=>bA id l (jJ l new λl'=>cA H (.cells l') λb' H=>k (.slice b' 0 need 0 size) H))) (no 0))=_;have hn:¬Yf len n<=q:=by simp_all
 simp only[ax,bG,mi,fk,if_neg hn];rfl
@[congr]theorem ZS{size n n' b o len cp sz}{new new'}(h:n=n')(h':new=new'):rH id size n new b o len cp sz H k=rH id size n' new' b o len cp sz H k:=by simp_all
theorem ZW{m a b}{f}:gk id (.add m) a b f=f ((a+b)%m):=ax _ _
theorem Z2{m a b}{f}:gk id (.sub m) a b f=f ((a+(m-b))%m):=ax _ _
theorem ZY{m a b}{f}:gk id (.mul m) a b f=f (a*b%m):=ax _ _
theorem Y3{a b}:(dQ .eq a b=true)=(a=b):=oZ
theorem adD{a b}:(dQ .ne a b=true)=¬(a=b):=by show(Bool.rec true false (YN a b)=true)=_;rw[<-oZ];cases YN a b<;>simp
theorem Rg{o m a b}:(dQ (.lt o m) a b=true)=((a+o)%m<(b+o)%m):=BU
theorem DL{o m a b}:(dQ (.le o m) a b=true)=((a+o)%m<=(b+o)%m):=mi
theorem Kl{o m a b}:(dQ (.gt o m) a b=true)=((b+o)%m<(a+o)%m):=BU
theorem Kk{o m a b}:(dQ (.ge o m) a b=true)=((b+o)%m<=(a+o)%m):=mi
def nn(a:Nat):Prop:=a<9223372036854775808
theorem lK{a}(h:nn a):(a+9223372036854775808)%18446744073709551616=a+9223372036854775808:=by unfold nn at h;omega
theorem aeE{a b}(ha:nn a)(hb:nn b):(dQ (.lt 9223372036854775808 18446744073709551616) a b=true)=(a<b):=by rw[Rg,lK ha,lK hb];simp
theorem aeC{a b}(ha:nn a)(hb:nn b):(dQ (.le 9223372036854775808 18446744073709551616) a b=true)=(a<=b):=by rw[DL,lK ha,lK hb];simp
theorem adQ{a b}(ha:nn a)(hb:nn b):(dQ (.gt 9223372036854775808 18446744073709551616) a b=true)=(b<a):=by rw[Kl,lK ha,lK hb];simp
theorem ED{a b}(ha:nn a)(hb:nn b):(dQ (.ge 9223372036854775808 18446744073709551616) a b=true)=(b<=a):=by rw[Kk,lK ha,lK hb];simp
theorem abp{a b}(h:b<=a)(ha:nn a):(a+(18446744073709551616-b))%18446744073709551616=a-b:=by unfold nn at ha;omega
theorem aaQ{a b}(ha:nn a)(hb:nn b):vE true 9223372036854775808 18446744073709551616 a b=max a b:=by unfold vE;rw[if_pos rfl,lK ha,lK hb];split<;>omega
theorem aaV{a}(h:a<9223372036854775808):nn a:=h
theorem Pf{d}{f}:gH id none e d f=f d:=Yc rfl rfl
theorem Pg{a}{d}{f}:gH id (some a) e d f=cB id (aA a e) λkd n=>if 3<=kd then(if n<9223372036854775808then f n else no 0)else no 0:=by show aK a e (λv=>cB id v λkd n=>aI (Yb 3 kd) (aI (Yz n 9223372036854775808) (f n) (no 0)) (no 0))=_;simp only[aq,bG,mi,BU]
def aau(p:Nat×V):V×V:=(.int 3 p.1,p.2)
def eO(D:List (Nat×V)):List (V×V):=D.map aau
def Vf(D:List (Nat×V))(a:Nat):Option V:=(D.find? λp=>p.1==a).map (·.2)
def CP:List (Nat×V)->Nat->V->List (Nat×V)|[],a,v=>[(a,v)]|p::D,a,v=>if p.1=a then(p.1,v)::D else p::CP D a v
def AA(o:Option V)(f:V->R)(z:R):R:=match o with|some v=>f v|none=>z
@[congr]theorem Zh{o o'}{f}{z}(h:o=o'):AA o f z=AA o' f z:=by rw[h]
theorem IX{v}{f}{z}:AA (some v) f z=f v:=Yc rfl rfl
theorem IW{f}{z}:AA none f z=z:=Yc rfl rfl
theorem As:∀{D}{a}{f}{z},uu id false (eO D) (.int 3 a) f z=AA (Vf D a) f z
 |[],a,f,z=>rfl|(b,v)::D,a,f,z=>by
  show aI (YN a b) (f v) (uu id false (eO D) (.int 3 a) f z)=_;rw[bG,As];by_cases h:a=b;.subst h;simp[Vf,AA]
  .have hb:(b==a)=false:=by simp;omega
   simp[Vf,h,List.find?_cons,hb]
theorem F5:∀{D}{a}{y}{f},F4 id false (eO D) (.int 3 a) y f=f (eO (CP D a y))
 |[],a,y,f=>rfl|(b,v)::D,a,y,f=>by
  show aI (YN a b) (f ((.int 3 b,y)::eO D)) (F4 id false (eO D) (.int 3 a) y λr=>f ((.int 3 b,v)::r))=_;rw[bG,F5];by_cases h:a=b;.subst h;simp[CP,eO,aau]
  .have hb:¬b=a:=λh'=>h h'.symm;simp[CP,eO,aau,h,hb]
theorem Vy{zero}{ok}{m x}{ks}:aR (.look ks zero ok m x) id ph e H k=qA id (aA m e) (λb=>rK id (H.get b) λes=>uu id ks es (aA x e) (λv=>if ok=true then k (.cG [v,.bool true]) H else k v H) (if ok=true then k (.cG [zero,.bool false]) H else k zero H)) (if ok=true then k (.cG [zero,.bool false]) H else k zero H):=by show aK m e (λm=>aK x e λx=>qA id m (λb=>dv H b λbl=>rK id bl λes=>uu id ks es x (λv=>aI ok (k (.cG [v,.bool true]) H) (k v H)) (aI ok (k (.cG [zero,.bool false]) H) (k zero H))) (aI ok (k (.cG [zero,.bool false]) H) (k zero H)))=_;simp only[aq,aX,bG]
theorem Vz{ks}{m x y}:aR (.aaS ks m x y) id ph e H k=Gz id (aA m e) λb=>rK id (H.get b) λes=>isKey id (aA x e) (F4 id ks es (aA x e) (aA y e) λes'=>cZ id H b (.map es') λH=>k (.cG []) H):=by show aK m e (λm=>aK x e λx=>aK y e λy=>Gz id m λb=>dv H b λbl=>rK id bl λes=>isKey id x (F4 id ks es x y λes'=>cZ id H b (.map es') λH=>k (.cG []) H))=_;simp only[aq,aX]
@[congr]theorem Zd{ks}{es es'}{x x'}{f}{z}(h:es=es')(h':x=x'):uu id ks es x f z=uu id ks es' x' f z:=by simp_all
@[congr]theorem abk{ks}{es es'}{x x' y y'}{f}(h:es=es')(h':x=x')(h2:y=y'):F4 id ks es x y f=F4 id ks es' x' y' f:=by simp_all
end
end Go.Ev
end
section
namespace Go.Ev
section
variable{id:Nat}{ph:dm}{e:Env}{H:Heap}{k:K}
theorem Ny{f}:iw id [] f=f 0 0:=Yc rfl rfl
theorem IZ{x}{l}{f}:iw id (.int 4 x::l) f=iw id l λlen n=>f (len+1) (x+256*n):=by show aI (YN 4 4) (iw id l λlen n=>av (Yf x (Ym 256 n)) λn'=>av (WN len) λlen'=>f len' n') (no 0)=_;simp only[ax];rfl
theorem Sq{b off n}{f}:mh id H b off n f=tV id (H.get b) (λl=>fC id l off λr=>takeN id r n λq=>iw id q λ_ x=>f x) λlen x=>if off+n<=len then f ((x>>>(8*off))%256^n)else no 0:=by unfold mh;rw[aX];congr 1;funext len x;rw[bG];simp only[mi,ax];rfl
theorem Fu{z}{l c}:aR (.mkSlice true z l c) id ph e H k=cB id (aA l e) λkl l=>cB id (aA c e) λkc c=>if 3<=kl then(if 3<=kc then(if l<=c then(if c<=16777216then cA H (.bytes c 0) λb H=>k (.slice b 0 l (c+1) 0) H else no 0)else no 0)else no 0)else no 0:=by show aK l e (λl=>cB id l λkl l=>aK c e λc=>cB id c λkc c=>aI (Yb 3 kl) (aI (Yb 3 kc) (aI (Yb l c) (aI (Yb c 16777216) (cA H (.bytes c 0) λb H=>av (WN c) λc1=>k (.slice b 0 l c1 0) H) (no 0)) (no 0)) (no 0)) (no 0))=_;simp only[aq,bG,mi,ax]
theorem IS{x}:aR (.Ko x) id ph e H k=bD id (aA x e) (λb o l _ _=>mh id H b o l λn=>k (.str l n) H) (k (.str 0 0) H):=by show aK x e (λx=>bD id x (λb o l _ _=>mh id H b o l λn=>k (.str l n) H) (k (.str 0 0) H))=_;rw[aq]
theorem IU{x}:aR (.Kp x) id ph e H k=dU id (aA x e) λl n=>if l<=16777216then cA H (.bytes l n) λb H=>k (.slice b 0 l 0 1) H else no 0:=by show aK x e (λx=>dU id x λl n=>aI (Yb l 16777216) (cA H (.bytes l n) λb H=>k (.slice b 0 l 0 1) H) (no 0))=_;simp only[aq,bG,mi]
theorem VJ{size}{x}{lo hi}:aR (.slV size x lo hi none) id ph e H k=bD id (aA x e) (λb o len cp sz=>gH id lo e 0 λl=>gH id hi e len λh=>if l<=h then(if cp=0then(if h<=len then(if sz=size then k (.slice b (o+l*size) (h-l) 0 sz) H else no 0)else no 0)else(if h<=cp-1then(if cp-1=l then k (.slice b o (h-l) 1 0) H else k (.slice b (o+l*size) (h-l) (cp-1-l+1) 0) H)else no 0))else no 0) (gH id lo e 0 λl=>gH id hi e 0 λh=>if l=0then(if h=0then k .aD H else no 0)else no 0):=by show aK x e (λx=>bD id x (λb o len cp sz=>gH id lo e 0 λl=>gH id hi e len λh=>aI (Yb l h) (av (QN h l) λd=>(Nat.rec (aI (Yb h len) (aI (YN sz size) (av (Yf o (Ym l size)) λo'=>k (.slice b o' d 0 sz) H) (no 0)) (no 0)) (λq _=>aI (Yb h q) (aI (YN q l) (k (.slice b o d 1 0) H) (av (Yf o (Ym l size)) λo'=>av (WN (QN q l)) λc'=>k (.slice b o' d c' 0) H)) (no 0)) cp)) (no 0)) (gH id lo e 0 λl=>gH id hi e 0 λh=>aI (YN l 0) (aI (YN h 0) (aI (YN 0 0) (k .aD H) (no 0)) (no 0)) (no 0)))=_;simp only[aq,ax,bG,mi,oZ,if_true];congr 1;funext b o len cp sz;cases cp with|zero=>rfl|succ q=>rfl
theorem VK{size}{x m}{lo hi}:aR (.slV size x lo hi (some m)) id ph e H k=bD id (aA x e) (λb o len cp sz=>gH id lo e 0 λl=>gH id hi e len λh=>if l<=h then(gH id (some m) e 0 λm=>if h<=m then(if m<=(if cp=0then len else cp-1)then(if m=l then k (.slice b o (h-l) 1 0) H else k (.slice b (o+l*size) (h-l) (m-l+1) 0) H)else no 0)else no 0)else no 0) (gH id lo e 0 λl=>gH id hi e 0 λh=>gH id (some m) e 0 λm=>if l=0then(if h=0then(if m=0then k .aD H else no 0)else no 0)else no 0):=by
 show aK x e (λx=>bD id x (λb o len cp sz=>gH id lo e 0 λl=>gH id hi e len λh=>aI (Yb l h) (av (QN h l) λd=>gH id (some m) e 0 λm=>aI (Yb h m) (aI (Yb m (Nat.rec len (λq _=>q) cp)) (aI (YN m l) (k (.slice b o d 1 0) H) (av (Yf o (Ym l size)) λo'=>av (WN (QN m l)) λc'=>k (.slice b o' d c' 0) H)) (no 0)) (no 0)) (no 0)) (gH id lo e 0 λl=>gH id hi e 0 λh=>gH id (some m) e 0 λm=>aI (YN l 0) (aI (YN h 0) (aI (YN m 0) (k .aD H) (no 0)) (no 0)) (no 0)))=_;have hc:∀(cp len),(Nat.rec len (λq _=>q) cp:Nat)=if cp=0then len else cp-1:=λcp len=>by cases cp<;>rfl
 simp only[aq,ax,bG,mi,oZ,hc];rfl
end
section
variable{cp:RC->au}{t:Nat->Option df}{fuel d:Nat}{H:Heap}{k:K}{args caps:List V}{f F:Nat}{g:List V->Heap->K->R}
theorem od(ht:t F=some (.nat g))(hf:f%2=0)(hF:f/2=F):aj (aU cp t fuel (d+1)) (.func f caps) args H k=g (args++caps) H k:=by show Nat.rec (motive:=λ_=>R) (jJ args caps λargs=>Ij t fuel (aU cp t fuel d) (Wm f 2) args H k) (λ_ _=>jJ caps args λargs=>Ij t fuel (aU cp t fuel d) (Wm f 2) args H k) (Yx f 2)=_;have h1:Yx f 2=0:=hf;have h2:Wm f 2=F:=hF;rw[h1,h2];rw[fk];show av F (λf=>Option.rec (no (100+f)) (λfn=>U0 fn fuel (aU cp t fuel d) (args++caps) H k) (t f))=_;rw[ax,ht];rfl
end
end Go.Ev
end
section
namespace Go.Ev
def I9(x off ml mx:Nat):Nat:=x%256^off+(mx+(x>>>(8*(off+ml)))*256^ml)*256^off
section
variable{id:Nat}{ph:dm}{e:Env}{H:Heap}{k:K}
theorem TE{b off}{m}{k}:dO id H b off m k=tV id (H.get b) (λl=>bA id m (setAt id m l off λl'=>cZ id H b (.cells l') k)) λlen x=>iw id m λml mx=>if off+ml<=len then cZ id H b (.bytes len (I9 x off ml mx)) k else no 0:=by
 rw[Jw];congr 1;funext len x;congr 1;funext ml mx;rw[bG];simp only[mi,ax];have h:(Yf (Yx x (Nat.pow 256 off)) (Yt (Yf mx (Yt (WC x (Ym 8 (Yf off ml))) (Ym 8 ml))) (Ym 8 off)):Nat)=I9 x off ml mx:=by rw[Tw,Tw];rfl
 simp_all
theorem aa9{n size}{x}{lo hi mx}:aR (.slA n size x lo hi mx) id ph e H k=ec id (aA x e) λb o=>gH id mx e n λm=>gH id hi e n λh=>gH id lo e 0 λl=>if l<=h then(if h<=m then(if m<=n then(if m=l then k (.slice b o (h-l) 1 0) H else k (.slice b (o+l*size) (h-l) (m-l+1) 0) H)else no 0)else no 0)else no 0:=by show aK x e (λx=>ec id x λb o=>gH id mx e n λm=>gH id hi e n λh=>gH id lo e 0 λl=>aI (Yb l h) (aI (Yb h m) (aI (Yb m n) (av (QN h l) λd=>aI (YN m l) (k (.slice b o d 1 0) H) (av (Yf o (Ym l size)) λo'=>av (WN (QN m l)) λc'=>k (.slice b o' d c' 0) H)) (no 0)) (no 0)) (no 0))=_;simp only[aq,ax,bG,mi,oZ];rfl
theorem Z1{half bits a b}{f}:gk id (.shr half bits) a b f=if a<half then(if b<=bits then f (a>>>b)else(if b<9223372036854775808then f 0 else no 0))else no 0:=by show aI (Yz a half) (aI (Yb b bits) (av (WC a b) f) (aI (Yz b 9223372036854775808) (f 0) (no 0))) (no 0)=_;simp only[ax,bG,mi,BU];rfl
theorem Z0{m bits a b}{f}:gk id (.shl m bits) a b f=if b<=bits then f ((a<<<b)%m)else(if b<9223372036854775808then f 0 else no 0):=by show aI (Yb b bits) (av (Yx (Yt a b) m) f) (aI (Yz b 9223372036854775808) (f 0) (no 0))=_;simp only[ax,bG,mi,BU];rfl
theorem ZX{a b}{f}:gk id .bor a b f=f (a|||b):=ax _ _
end
def tv(l:List UInt8):V:=.str l.length (enc l)
end Go.Ev
end
section
namespace Go.Ev
def qQ:au->Option (RC×RC)
 |.seq a b=>match qQ a with|some r=>some r|none=>qQ b
 |.cond _ a b=>match qQ a with|some r=>some r|none=>qQ b
 |.block _ a=>qQ a|.loop a=>qQ a|.kK _ _ a b=>some (a,b)|.Cb _ _ a b=>some (a,b)|_=>none
def aba(o:Option df):RC×RC:=match o with|some (.code _ _ c)=>(qQ c).getD (⟨0,0,.ret⟩,⟨0,0,.ret⟩)|_=>(⟨0,0,.ret⟩,⟨0,0,.ret⟩)
section
variable{id:Nat}{ph:dm}{e:Env}{H:Heap}{k:K}{fuel:Nat}{kn:KE}{kx:Nat->KE}
theorem Ic{g}{ps}{asL bo}{f}{caps}(hw:H.wf)(hg:aA g e=.func f caps)(hf:f%2=0){G}{v}(hcall:∀k:K,aj ph (.func f caps) [.sJ (H.n+1)] ((H.new .mark).new (.loop 0 0 e ps asL bo)) k=k v G){e'}{ps'}{as' bo'}(hG:G.get (H.n+1)=.loop 0 0 e' ps' as' bo')(hGw:G.wf)(hGn:H.n+1<G.n):gO (.kK g ps asL bo) fuel ph e H kn kx=kn e (G.put (H.n+1) (.loop 3 0 e' ps' as' bo')):=by show aK g e (λg=>ym 0 g λf caps=>Nat.rec (cA H .mark λ_ H=>cA H (.loop 0 0 e ps asL bo) λb H=>ph (.func f caps) [.sJ b] H λ_ H=>dv H b λbl=>eS bl λst j e' ps' as' bo'=>Nat.rec (cZ 0 H b (.loop 3 j e' ps' as' bo') λH=>Nat.rec (kn e H) (λm _=>kx m e H) j) (λs _=>Nat.rec (no 10) (λ_ _=>cZ 0 H b (.loop 3 j e' ps' as' bo') λH=>Nat.rec (kn e H) (λm _=>kx m e H) j) s) st) (λ_ _=>no 14) (Yx f 2))=_;rw[aq,hg];show Nat.rec (motive:=λ_=>R) _ _ (Yx f 2)=_;have hf':Yx f 2=0:=hf;rw[hf'];rw[cD hw,cD (by rw[Heap.aZ];omega),Heap.aQ];refine(hcall _).trans ?_;rw[aX,hG];show cZ 0 G (H.n+1) (.loop 3 0 e' ps' as' bo') (λH=>kn e H)=_;rw[eU hGw hGn]
theorem pJ{cp}{t}{d b}{args}:aj (aU cp t fuel (d+1)) (.sJ b) args H k=Y6 cp fuel (aU cp t fuel d) b args H k:=Yc rfl rfl
theorem wR{ops}:gO (.aay ops) fuel ph e H kn kx=bO ph H.n ops e H [] [] kn:=by rfl
variable{n0:Nat}{l:List uK}{fl st:List (Nat×Nat)}{dd:Option Slot}{i bf:Nat}{ad:Arg}{op:ld}
theorem qO:bO ph n0 [] e H fl st kn=kn e H:=Yc rfl rfl
theorem gY:bO ph n0 (⟨id,dd,none,0,i,bf,ad,op⟩::l) e H fl st kn=aR op id ph e H λv H'=>bO ph n0 l (dC dd v e) H' fl st kn:=by show aR op id ph e H (λv H'=>cj dd v e λe'=>bO ph n0 l e' H' fl st kn)=_;simp only[ck]
theorem mK{id bf b}{k}:dJ id bf b [] k=k:=Yc rfl rfl
theorem Dc{id bf b i' b'}{l}{k}:dJ id bf b ((i',b')::l) k=if Nat.testBit bf i'=true then dJ id bf b l k else if b=b' then no 0 else dJ id bf b l k:=by show aI (Nat.testBit bf i') (dJ id bf b l k) (aI (YN b b') (no 0) (dJ id bf b l k))=_;rw[bG,bG];simp
theorem wT{b o}(hb:aA ad e=.ptr b o)(hlt:b<n0){v}(hop:∀k:K,aR op id ph e H k=k v H)(hst:∀k:R,dJ id bf b st k=k):bO ph n0 (⟨id,dd,none,2,i,bf,ad,op⟩::l) e H fl st kn=bO ph n0 l (dC dd v e) H ((i,b)::fl) st kn:=by show aK ad e (λa=>nA id a λob=>Option.rec (no 0) (λb=>aI (Yz b n0) (dJ id bf b st (aR op id ph e H λv H'=>cj dd v e λe'=>bO ph n0 l e' H ((i,b)::fl) st kn)) (no 0)) ob)=_;rw[aq,hb];show aI (Yz b n0) (dJ id bf b st (aR op id ph e H λv H'=>cj dd v e λe'=>bO ph n0 l e' H ((i,b)::fl) st kn)) (no 0)=_;rw[bG,if_pos (by simp_all),hst,hop,ck]
end
section
variable{ph:dm}{e:Env}{H:Heap}{kn:KE}{kx:Nat->KE}{n0 id:Nat}{l:List uK}{hs:List Heap}{bs:List Nat}{dd:Option Slot}{i bf fuel:Nat}{ad:Arg}{op:ld}
theorem Ei{ops}:gO (.abE ops) fuel ph e H kn kx=dn ph H.n ops e H [] [] kn:=by rfl
theorem wV:dn ph n0 [] e H hs bs kn=kn e H:=Yc rfl rfl
theorem fV:dn ph n0 (⟨id,dd,none,0,i,bf,ad,op⟩::l) e H hs bs kn=aR op id ph e H λv H'=>dn ph n0 l (dC dd v e) H' hs bs kn:=by show aR op id ph e H (λv H'=>cj dd v e λe'=>dn ph n0 l e' H' hs bs kn)=_;simp only[ck]
theorem rY{b o}(hb:aA ad e=.ptr b o)(hlt:b<n0){v}(hop:∀k:K,aR op id ph e H k=k v H)(hsm:∀k:R,py b (H.get b) hs k=k):dn ph n0 (⟨id,dd,none,5,i,bf,ad,op⟩::l) e H hs bs kn=dn ph n0 l (dC dd v e) H hs (b::bs) kn:=by show aK ad e (λa=>nA id a λob=>Option.rec (no 0) (λb=>aI (Yz b n0) (dv H b λx=>py b x hs (aR op id ph e H λv _=>cj dd v e λe'=>dn ph n0 l e' H hs (b::bs) kn)) (no 0)) ob)=_;rw[aq,hb];show aI (Yz b n0) (dv H b λx=>py b x hs (aR op id ph e H λv _=>cj dd v e λe'=>dn ph n0 l e' H hs (b::bs) kn)) (no 0)=_;rw[bG,if_pos (show Yz b n0=true from by simp_all),aX,hsm,hop,ck]
theorem jk{v}{H'}(hop:∀k:K,aR op id ph e H k=k v H')(hsm:∀k:R,qy H H' bs k=k):dn ph n0 (⟨id,dd,none,6,i,bf,ad,op⟩::l) e H hs bs kn=dn ph n0 l (dC dd v e) H' (H::hs) bs kn:=by show aR op id ph e H (λv H'=>qy H H' bs (cj dd v e λe'=>dn ph n0 l e' H' (H::hs) bs kn))=_;rw[hop,hsm,ck]
def Um(x:ep):Prop:=∃l:List V,x=.cells l/\∀v∈l,∃k n,v=.int k n
theorem uD:∀{l}{k},(∀v∈l,∃k n,v=.int k n)->qZ l l k=k|[],k,_=>rfl|v::l,k,h=>by obtain⟨q,n,rfl⟩:=h v (YM ..);show aI (YN q q) (aI (YN n n) (qZ l l k) (no 0)) (no 0)=_;rw[bG,if_pos (show YN q q=true from by simp),bG,if_pos (show YN n n=true from by simp)];exact uD λw hw=>h w (YI _ hw)
theorem xX{x}{k}(h:Um x):uC x x k=k:=by obtain⟨l,rfl,h⟩:=h;exact uD h
theorem kM{b}{x}(h:Um x):∀{hs}{k},(∀G∈hs,G.get b=x)->py b x hs k=k|[],k,_=>rfl|G::hs,k,hg=>by show dv G b (λy=>uC y x (py b x hs k))=k;rw[aX,hg G (YM ..),xX h];exact kM h λG' h'=>hg G' (YI _ h')
theorem eQ{H H'}:∀{bs}{k},(∀b∈bs,Um (H.get b)/\H'.get b=H.get b)->qy H H' bs k=k|[],k,_=>rfl|b::bs,k,h=>by obtain⟨h1,h2⟩:=h b (YM ..);show dv H b (λx=>dv H' b λy=>uC y x (qy H H' bs k))=k;rw[aX,aX,h2,xX h1];exact eQ λc hc=>h c (YI _ hc)
end
end Go.Ev
end
section
namespace Go.Ev
attribute[go_sem ↓]Jl NX RQ UZ UX RN RM RP ML RO UY Ih Ii MM Ej Ek Ie ui Bx aa8 VF VD VA SR aa2 SP SQ Nu Nv VE aa1 aa3 aa4 Vx Vq Vr Vs Vp aa7 Vo SM Vw Vt Vu aeG aa6 aa5 SN SL Nt IQ VH VG Vy Vz MN Il KJ idx_eq Ny IZ Sq Fu IS IU VJ VK Pf Pg ZW Z2 ZY Sr oT abc Cd NM NL iM AH TE aa9 Z1 Z0 ZX lW iB cD eU yo JC TY TX CC cm ee TW Oh TV TZ Oi JF Gv JI JH Cz Gx JG Gw JE Am Iy Ao Nc EN IA Nb Iz Na II Nq IK Fq IL Np IJ aaI aaH aaF aaE fK LQ O9 lh Hl SF Fs eT eA NW su dN As F5 IX IW Tb Tc Td Jf
attribute[go_sem]List.append_nil List.nil_append List.cons_append Y3 adD aeE aeC adQ ED abp aaQ aaV I7 I6 VN VM eZ Slot.mk.injEq and_true and_false true_and false_and not_true_eq_false not_false_eq_true if_true if_false Nat.zero_shiftRight Nat.zero_mod Nat.add_zero Nat.zero_add Nat.zero_mul Nat.mul_one Nat.one_mul Ya YC Bool.not_true Bool.not_false Bool.false_eq_true Bool.true_eq_false eq_self YG YR List.length_map List.length_append List.set_cons_succ List.set_cons_zero List.map_cons List.map_nil List.take_succ_cons List.take_zero List.take_nil List.drop_succ_cons List.drop_zero List.drop_nil Heap.aH Heap.aG Heap.bu Heap.aZ Heap.aS Heap.aQ Heap.iU Heap.Sx Heap.GG Heap.EF Heap.er Heap.Cx Heap.Gs Heap.Gt Heap.nx
end Go.Ev
end
section
namespace Go.Ev
open Go.RowKit
open Classical
noncomputable def uH(N:Nat)(v:Value):V:=match mO v with|some u=>u|none=>match v with|.slice (some a) l cap=>if l<=cap then(if a.spot=none/\a.block<N then .slice a.block a.off l (cap+1) 0 else if cap=0then .slice N a.off 0 1 0 else .cG [])else .cG []|.pointer (some a)=>if a.spot=none/\a.block<N then .ptr a.block a.off else .cG []|.map (some b)=>if b<N then .map b else .cG []|_=>.cG []
noncomputable def sj(N:Nat)(c:Array Value)(fr:Nat×Nat):List V:=c.toList.mapIdx λi v=>if fr.1<=i/\i<fr.2then .cG []else uH N v
noncomputable def Ov(w:World)(b:Nat):ep:=if GB b then .dead else match w.heap[b]?with|some (.cells c _ fr)=>.view (sj w.heap.size c fr)|_=>.dead
noncomputable def nV(w:World):Nat->Heap|0=>H0|n+1=>(nV w n).new (Ov w n)
noncomputable def eR(w:World):Heap:=(nV w (w.heap.size+1)).mark
noncomputable def xU(w:World)(b:Nat):Option Nat:=if(Ov w b).alive then some b else none
theorem lV(w):∀n,(nV w n).wf/\(nV w n).n=n/\∀b,(nV w n).get b=if b<n then Ov w b else .dead
 |0=>⟨λb h=>absurd h (Nat.not_lt_zero b),rfl,λb=>by rfl⟩|n+1=>by
  obtain⟨h1,h2,h3⟩:=lV w n;refine⟨by unfold nV;rw[Heap.aZ];omega,by unfold nV;rw[Heap.aQ,h2],λb=>?_⟩;unfold nV;rw[Heap.aG h1,h2,h3];by_cases hb:b=n;.simp_all
  .rw[if_neg hb];by_cases hb2:b<n;.rw[if_pos hb2,if_pos (by omega)]
   .rw[if_neg hb2,if_neg (by omega)]
theorem Da(w):(eR w).wf:=by unfold eR;rw[Heap.er];exact(lV w _).1
theorem lf(w):(eR w).n=w.heap.size+1:=by unfold eR;rw[Heap.Sx];exact(lV w _).2.1
theorem zD(w):(eR w).bF=w.heap.size+1:=by unfold eR;rw[Heap.GG];exact(lV w _).2.1
theorem BA{w}{b}(h:w.heap.size<=b):Ov w b=.dead:=by unfold Ov;simp_all
theorem jS(w)(b):(eR w).get b=Ov w b:=by
 unfold eR;rw[Heap.EF,(lV w _).2.2];split;.rfl
 .rw[BA (by omega)]
theorem tC{w}{b}(h:(Ov w b).alive):(∃c e fr,w.heap[b]?=some (.cells c e fr)/\Ov w b=.view (sj w.heap.size c fr))/\¬GB b:=by
 unfold Ov at h⊢;by_cases hg:GB b;.rw[if_pos hg]at h;exact h.elim
 .rw[if_neg hg]at h⊢;refine⟨?_,hg⟩;split at h;.rename_i c e fr hc;exact⟨c,e,fr,hc,rfl⟩
  .exact h.elim
theorem CA(w)(v)(h:(uH w.heap.size v).one=true):VR (mu (xU w) (eR w) w) (uH w.heap.size v) v:=by have hb:∀b,b<w.heap.size->(mu (xU w) (eR w) w).b b b:=λb hb=>⟨by rw[lf];omega,λha=>by rw[jS]at ha;exact if_pos ha⟩;unfold uH at h⊢;cases hc:mO v with|some u=>exact(qJ hc).1|none=>
  rw[hc]at h;simp only at h⊢;split at h
  .rename_i a l cap;split at h
   .rename_i hl;rw[if_pos hl];split at h;.rename_i hs;rw[if_pos hs];obtain⟨b,off,spot⟩:=a;obtain⟨rfl,hbs⟩:=hs;exact⟨b,cap,off,none,rfl,hb b hbs,hl,⟨λq hq=>by omega,λh=>by omega⟩,Or.inl ⟨rfl,rfl⟩⟩
    .rename_i hs;rw[if_neg hs];split at h
     .rename_i h0;subst h0;obtain rfl:l=0:=by omega
      exact⟨a.block,0,a.off,a.spot,rfl,⟨by rw[lf];omega,λha=>by rw[jS,BA (YC _)]at ha;exact ha.elim⟩,YC _,⟨λq hq=>by omega,λh=>by omega⟩,YD rfl⟩
     .cases h
   .cases h
  .rename_i a;split at h;.rename_i hs;rw[if_pos hs];obtain⟨b,off,spot⟩:=a;simp only[VR];simp_all
   .cases h
  .split at h;.rename_i hs;rw[if_pos hs];simp only[VR];simp_all
   .cases h
  .cases h
theorem FN{N}{c}{fr}{i}{cv}(h:c[i]?=some cv)(hf:¬(fr.1<=i/\i<fr.2)):(sj N c fr)[i]?=some (uH N cv):=by unfold sj;rw[YN1,Yr,h,Option.map_some,if_neg hf]
section
variable{P:Program}{base:Nat}{w0 w w':World}{rho:Nat->Option Nat}{H H':Heap}
theorem PR.late(h:PR P base w0 rho H w)(hbl:Below w.heap.size w w'){bl:ep}{o:Obj}{g:Nat}(hn:H'.n=H.n+1)(hw:H'.bF=H.bF)(hg:H'.get H.n=bl)(ho:∀j,j≠H.n->H'.get j=H.get j)(ha:bl.alive)(hgs:w.heap.size<=g)(hnew:w'.heap[g]?=some o)(hb:BR P (mu rho H w) bl o):PR P base w0 (λb=>if b=H.n then some g else rho b) H' w'/\Ext rho H w (λb=>if b=H.n then some g else rho b) H' w':=by
 have hlt:=h.lt;have hgl:g<w'.heap.size:=(YP.1 hnew).1;have hE:Ext rho H w (λb=>if b=H.n then some g else rho b) H' w':=by
  refine⟨by omega,by omega,hbl.size,λb hb _=>⟨ho b (by omega),by simp[Qk hb]⟩,λb c hb hr=>?_,λb c hr _=>?_,λb hb hal=>?_,λb c hb hr=>?_,λc hc _=>hbl.block c hc,λb hm=>?_,λc cs e fr hc=>⟨cs,e,fr,(hbl.block c (YP.1 hc).1).trans hc,rfl⟩,λc r hc=>⟨r,(hbl.block c (YP.1 hc).1).trans hc⟩⟩;.simpa[Qk hb]using hr
  .have:=hlt b c hr;simp[Qk this,hr]
  .rwa[ho b (by omega)]at hal
  .by_cases hb':b=H.n;.simp[hb']at hr;omega
   .simp[hb']at hr;have:=hlt b c hr;omega
  .have hb':b≠H.n:=λe=>by subst e;rw[h.out H.n (YC _)]at hm;cases hm
   exact⟨(ho b hb').trans hm,by simp[hb'],λc hc=>hbl.block c (h.jH b c hc).2.2.1⟩
 refine⟨⟨h.below.trans (hbl.mono h.cR),Yq h.cR hbl.size,by have:=h.wn;omega,λb c hr=>?_,λb b' c hr hr'=>?_,λb c hr=>?_,λb hb'=>?_,h.gl.step hE⟩,hE⟩
 .by_cases hb':b=H.n;.subst hb';simp at hr;subst hr;exact⟨by omega,Yq h.cR hgs,hgl,by rw[hg];exact ha⟩
  .simp[hb']at hr;obtain⟨h1,h2,h3,h4⟩:=h.jH b c hr;exact⟨by omega,h2,Nat.lt_of_lt_of_le h3 hbl.size,by rw[ho b hb'];exact h4⟩
 .by_cases h1:b=H.n<;>by_cases h2:b'=H.n<;>simp[h1,h2]at hr hr';.omega
  .have:=(h.jH b' c hr').2.2.1;omega
  .have:=(h.jH b c hr).2.2.1;omega
  .exact h.inj b b' c hr hr'
 .by_cases hb':b=H.n;.subst hb';simp at hr;subst hr;exact⟨o,hnew,by rw[hg];exact hb.mono hE.mu⟩
  .simp[hb']at hr;obtain⟨o',h1,h2⟩:=h.cV b c hr;refine⟨o',(hbl.block c (h.jH b c hr).2.2.1).trans h1,?_⟩;rw[ho b hb'];exact h2.mono hE.mu
 .rw[ho b (by omega)];exact h.out b (by omega)
end
section
variable{P:Program}
theorem PR.eR(w:World)(hg:GQ w/\∀c,GB c->c<w.heap.size:=by exact Gno):PR P 0 w (xU w) (Ev.eR w) w:=by
 have hr:∀b c,xU w b=some c->b=c/\(Ov w b).alive:=λb c h=>by
  unfold xU at h;split at h;.rename_i ha;cases h;exact⟨rfl,ha⟩
  .cases h
 refine⟨Below.refl _ _,Ya _,by rw[zD,lf];exact YC _,λb c h=>?_,λb b' c h h'=>(hr _ _ h).1.trans (hr _ _ h').1.symm,λb c h=>?_,λb hb=>?_,hg.1,hg.2,λb c h=>?_⟩;.obtain⟨rfl,ha⟩:=hr _ _ h;obtain⟨⟨cs,e,fr,h1,h2⟩,_⟩:=tC ha;have hlt:=(YP.1 h1).1;exact⟨by rw[lf];omega,Ya _,hlt,by rw[jS];exact ha⟩
 .obtain⟨rfl,ha⟩:=hr _ _ h;obtain⟨⟨cs,e,fr,h1,h2⟩,_⟩:=tC ha;refine⟨_,h1,?_⟩;rw[jS,h2];refine⟨cs,e,fr,rfl,λi v hi ho=>?_⟩;unfold sj at hi;rw[YN1,Yr]at hi;obtain⟨cv,h3,h4⟩:=Option.map_eq_some_iff.1 hi;split at h4;.subst h4;cases ho
  .rename_i hf;subst h4;exact⟨⟨cv,h3,CA w cv ho⟩,hf⟩
 .rw[lf]at hb;rw[jS,BA (by omega)]
 .obtain⟨rfl,ha⟩:=hr _ _ h;exact(tC ha).2
end
end Go.Ev
end
