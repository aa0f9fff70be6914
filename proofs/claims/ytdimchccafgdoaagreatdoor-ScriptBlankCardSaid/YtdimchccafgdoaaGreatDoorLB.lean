/- LB: a part of the evaluator,of its logic,or of the laws' walk in it. -/
import Derived.Test.YtdimchccafgdoaaGreatDoorLA
set_option linter.unusedVariables false
set_option linter.unusedSimpArgs false
set_option linter.unusedSectionVars false
section
namespace Go.Ev
def linesP:List UInt8→List (List UInt8)
 | [] => [[]]
 | b :: l=>if b=10 then [] :: linesP l else match linesP l with
  | [] => [[b]]
  | x :: xs=>(b :: x) :: xs
theorem linesP_ne:∀ s:List UInt8,linesP s≠[]
 | []=>by simp [linesP]
 | b :: l=>by
  rw [linesP]
  split
  ·simp
  ·split <;> simp
theorem findB_none:∀ {s:List UInt8},findB 10 s=none→linesP s=[s]
 | [],_=>rfl
 | b :: l,h=>by
  rw [findB] at h
  by_cases hb:b=10
  ·rw [if_pos hb] at h;cases h
  ·rw [if_neg hb] at h
   have h1:findB 10 l=none:=by
    cases h2:findB 10 l with
    | none=>rfl
    | some i=>rw [h2] at h;cases h
   rw [linesP,if_neg hb,findB_none h1]
theorem findB_some:∀ {s:List UInt8} {i:Nat},findB 10 s=some i→i<s.length∧linesP s=s.take i :: linesP (s.drop (i+1))
 | [],i,h=>by cases h
 | b :: l,i,h=>by
  rw [findB] at h
  by_cases hb:b=10
  ·rw [if_pos hb] at h
   cases h
   exact ⟨by simp,by rw [linesP,if_pos hb];rfl⟩
  ·rw [if_neg hb] at h
   cases h2:findB 10 l with
   | none=>rw [h2] at h;cases h
   | some j=>
    rw [h2] at h
    cases h
    obtain ⟨h3,h4⟩:=findB_some h2
    exact ⟨by simp;exact h3,by rw [linesP,if_neg hb,h4];rfl⟩
theorem lines_len:∀ s:List UInt8,(linesP s).length≤s.length+1 ∧ ∀ x ∈ linesP s,x.length≤s.length
 | []=>by simp [linesP]
 | b :: l=>by
  obtain ⟨h1,h2⟩:=lines_len l
  rw [linesP]
  split
  ·refine ⟨by simp;omega,fun x hx => ?_⟩
   rcases List.mem_cons.1 hx with rfl | hx
   ·simp
   ·have:=h2 x hx;simp;omega
  ·split
   ·exact ⟨by simp,fun x hx=>by simp at hx;subst hx;simp⟩
   ·rename_i x xs he
    rw [he] at h1 h2
    refine ⟨by simp at h1 ⊢;omega,fun z hz => ?_⟩
    rcases List.mem_cons.1 hz with rfl | hz
    ·have:=h2 x (List.mem_cons_self ..);simp;omega
    ·have:=h2 z (List.mem_cons_of_mem _ hz);simp;omega
section
variable {t:Nat→Option FnE} {cp:RC→CodeE} {fuel:Nat} {dec:List UInt8→Nat × Nat} {num:List UInt8→Nat}
structure LI (cp:RC→CodeE) (t:Nat→Option FnE) (fuel:Nat) (s:List UInt8) (B A C y q:Nat) (J Q:Nat→Heap→Prop):Prop where
 cells:∀ j G,J j G→G.get A = .cells [tv [10]]∧G.get C = .cells [.int 3 0]∧G.wf∧B<G.n
 put:∀ j G x,J j G→J j (G.put B x)
 get:∀ j G x,J j G→(G.put B x).get B=x
 go:∀ j w G,(linesP s)[j]? = some w→J j G→(∃ G',J (j+1) G'∧G'.get B=G.get B ∧ ∀ (d:Nat) (k:K),callP (evP cp t fuel (d+q+1)) (.yld y) [tv w] G k=k (.bool true) G') ∨ ∃ G',Q j G' ∧ ∀ (d:Nat) (k:K),callP (evP cp t fuel (d+q+1)) (.yld y) [tv w] G k=k (.bool false) G'
theorem lines_loop (T:TCode t) (S:SNat t dec num) {s:List UInt8} {B A C y q:Nat} {J Q:Nat→Heap→Prop} (L:LI cp t fuel s B A C y q J Q) (hs:s.length≤1000000) :
  ∀ (m:Nat) (rest:List UInt8) (j:Nat) (G:Heap),rest.length=m→rest.length≤s.length→(linesP s).drop j=linesP rest→J j G→G.get B = .cells [tv rest] →
  ∃ G',((∃ i,Q i G'∧i < (linesP s).length ∧ ∀ (d:Nat) (kx:Nat→KE) (r:Nat) (e:Env),m<r→pget ⟨.i0, .i0, .i0⟩ e = .yld y→pget ⟨.i0, .i0, .i1⟩ e = .ptr A 0→pget ⟨.i0, .i0, .i2⟩ e = .ptr B 0→pget ⟨.i0, .i0, .i3⟩ e = .ptr C 0 →
    ∀ x:R,(∀ e',kx 0 e' G'=x)→evL c57l1 fuel (evP cp t fuel (d+q+1)) kx r e G=x) ∨
   ∃ j' rest',(linesP s).drop j'=[rest']∧J j' G'∧G'.get B = .cells [tv rest'] ∧ ∀ (d:Nat) (kx:Nat→KE) (r:Nat) (e:Env),m<r→pget ⟨.i0, .i0, .i0⟩ e = .yld y→pget ⟨.i0, .i0, .i1⟩ e = .ptr A 0→pget ⟨.i0, .i0, .i2⟩ e = .ptr B 0→pget ⟨.i0, .i0, .i3⟩ e = .ptr C 0 →
    ∀ x:R,(∀ e',pget ⟨.i0, .i0, .i0⟩ e' = .yld y→pget ⟨.i0, .i0, .i2⟩ e' = .ptr B 0→kx 3 e' G'=x)→evL c57l1 fuel (evP cp t fuel (d+q+1)) kx r e G=x):=by
 intro m
 induction m using Nat.strongRecOn with
 | ind m ih=>
  intro rest j G hm hrs hF hG gB
  obtain ⟨gA,gC,hw,hBn⟩:=L.cells j G hG
  have n1:rest.length≤16777216:=by omega
  have z1:=fun {d:Nat} {k:K}=>index_call (cp:=cp) (fuel:=fuel) (d:=d) (H:=G) (k:=k) S (s:=rest) n1
  have e10:tv [10] = .str 1 10:=rfl
  rw [e10] at gA
  cases hf:findB 10 rest with
  | none=>
   rw [hf] at z1
   refine ⟨G,Or.inr ⟨j,rest,by rw [hF,findB_none hf],hG,gB,fun d kx r e hr h0 h1 h2 h3 x hx => ?_⟩⟩
   obtain ⟨r,rfl⟩:∃ q,r=q+1:=⟨r-1,by omega⟩
   have zc1:(evCF (.lt 9223372036854775808 18446744073709551616) 18446744073709551615 0=true)=True:=by decide
   rw [evL_succ]
   simp only [go_sem,↓op_app,reduceCtorEq,Nat.reduceAdd,Nat.reduceSub,Nat.reduceMul,Nat.reduceEqDiff,Nat.reduceLT,Nat.reduceDiv,Nat.reduceMod,Nat.reduceLeDiff,↓reduceIte,c57l1,h0,h1,h2,h3,gA,gB,gC,isOne_tv,vStr_tv,z1,zc1]
   refine hx _ ?_ ?_ <;> simp only [go_sem,reduceCtorEq,↓reduceIte,h0,h2]
  | some i=>
   rw [hf] at z1
   obtain ⟨hi,hl⟩:=findB_some hf
   obtain ⟨y1,y2⟩:=drop_step (show (linesP s).drop j=rest.take i :: linesP (rest.drop (i+1)) by rw [hF,hl])
   have n2:nn i:=by unfold nn;omega
   have n3:¬ i<0:=by omega
   have n4:i % 18446744073709551616=i:=by omega
   have n5:i<9223372036854775808:=by omega
   have n6:i≤rest.length:=by omega
   have n7:(i+1) % 18446744073709551616=i+1:=by omega
   have n8:i+1<9223372036854775808:=by omega
   have n9:i+1≤rest.length:=by omega
   have n10:rest.length<9223372036854775808:=by omega
   have eS:V.str (i-0) (enc rest >>> 0 % 256 ^ (i-0))=tv (rest.take i):=by
    show V.str (i-0) (enc rest >>> (8 * 0) % 256 ^ (i-0))=_
    rw [str_sl (Nat.zero_le i) n6,List.drop_zero,Nat.sub_zero]
   have eD:V.str (rest.length-(i+1)) (enc rest >>> (8 * (i+1)) % 256 ^ (rest.length-(i+1)))=tv (rest.drop (i+1)):=by
    rw [str_sl n9 (Nat.le_refl _),List.take_of_length_le (by rw [List.length_drop];omega)]
   rcases L.go j _ G y1 hG with ⟨G1,hG1,hB1,z2⟩ | ⟨G1,hQ,z2⟩
   ·have hB1':=hB1.trans gB
    obtain ⟨gA1,gC1,hw1,hBn1⟩:=L.cells _ G1 hG1
    rw [e10] at gA1
    obtain ⟨G',hG'⟩:=ih (rest.drop (i+1)).length (by rw [List.length_drop];omega) (rest.drop (i+1)) (j+1) (G1.put B (.cells [tv (rest.drop (i+1))])) rfl (by rw [List.length_drop];omega) y2 (L.put _ _ _ hG1) (L.get _ _ _ hG1)
    have run:∀ (d:Nat) (kx:Nat→KE) (r:Nat) (e:Env),pget ⟨.i0, .i0, .i0⟩ e = .yld y→pget ⟨.i0, .i0, .i1⟩ e = .ptr A 0→pget ⟨.i0, .i0, .i2⟩ e = .ptr B 0→pget ⟨.i0, .i0, .i3⟩ e = .ptr C 0 → ∀ x:R,
      (∀ e',pget ⟨.i0, .i0, .i0⟩ e' = .yld y→pget ⟨.i0, .i0, .i1⟩ e' = .ptr A 0→pget ⟨.i0, .i0, .i2⟩ e' = .ptr B 0→pget ⟨.i0, .i0, .i3⟩ e' = .ptr C 0→evL c57l1 fuel (evP cp t fuel (d+q+1)) kx r e' (G1.put B (.cells [tv (rest.drop (i+1))]))=x)→evL c57l1 fuel (evP cp t fuel (d+q+1)) kx (r+1) e G=x:=fun d kx r e h0 h1 h2 h3 x hx=>by
     have z2':=fun {k:K}=>z2 d k
     rw [evL_succ]
     simp only [go_sem,↓op_app,reduceCtorEq,Nat.reduceAdd,Nat.reduceSub,Nat.reduceMul,Nat.reduceEqDiff,Nat.reduceLT,Nat.reduceDiv,Nat.reduceMod,Nat.reduceLeDiff,↓reduceIte,c57l1,h0,h1,h2,h3,gA,gB,gC,isOne_tv,vStr_tv,z1,n2,n3,n4,n5,n6,n7,n8,n9,n10,eS,z2',hB1',gA1,eD,hw1,hBn1]
     refine hx _ ?_ ?_ ?_ ?_ <;> simp only [go_sem,reduceCtorEq,↓reduceIte,h0,h1,h2,h3]
    refine ⟨G', ?_⟩
    have hm1:(rest.drop (i+1)).length<m:=by rw [List.length_drop];omega
    rcases hG' with ⟨i',a1,a2,a3⟩ | ⟨j',rest',a1,a2,a3,a4⟩
    ·refine Or.inl ⟨i',a1,a2,fun d kx r e hr h0 h1 h2 h3 x hx => ?_⟩
     obtain ⟨r,rfl⟩:∃ q,r=q+1:=⟨r-1,by omega⟩
     exact run d kx r e h0 h1 h2 h3 x fun e' q0 q1 q2 q3=>a3 d kx r e' (by omega) q0 q1 q2 q3 x hx
    ·refine Or.inr ⟨j',rest',a1,a2,a3,fun d kx r e hr h0 h1 h2 h3 x hx => ?_⟩
     obtain ⟨r,rfl⟩:∃ q,r=q+1:=⟨r-1,by omega⟩
     exact run d kx r e h0 h1 h2 h3 x fun e' q0 q1 q2 q3=>a4 d kx r e' (by omega) q0 q1 q2 q3 x hx
   ·refine ⟨G1,Or.inl ⟨j,hQ, ?_,fun d kx r e hr h0 h1 h2 h3 x hx => ?_⟩⟩
    ·have h5:=y1
     rcases Nat.lt_or_ge j (linesP s).length with h | h
     ·exact h
     ·rw [List.getElem?_eq_none h] at h5;cases h5
    ·obtain ⟨r,rfl⟩:∃ q,r=q+1:=⟨r-1,by omega⟩
     have z2':=fun {k:K}=>z2 d k
     rw [evL_succ]
     simp only [go_sem,↓op_app,reduceCtorEq,Nat.reduceAdd,Nat.reduceSub,Nat.reduceMul,Nat.reduceEqDiff,Nat.reduceLT,Nat.reduceDiv,Nat.reduceMod,Nat.reduceLeDiff,↓reduceIte,c57l1,h0,h1,h2,h3,gA,gB,gC,isOne_tv,vStr_tv,z1,n2,n3,n4,n5,n6,n7,n8,n9,n10,eS,z2']
     exact hx _
theorem lines_call (T:TCode t) (S:SNat t dec num) {s:List UInt8} {B A C y q:Nat} {J Q:Nat→Heap→Prop} (L:LI cp t fuel s B A C y q J Q) (hfu:1000001<fuel) (hs:s.length≤1000000) {G:Heap} (hG:J 0 G) (gB:G.get B = .cells [tv s]) :
  ∃ G',((∃ i,Q i G'∧i < (linesP s).length)∨J (linesP s).length G') ∧ ∀ (d:Nat) (k:K),callP (evP cp t fuel (d+q+2)) (.func 114 [.ptr A 0, .ptr B 0, .ptr C 0]) [.yld y] G k=k (.tup []) G':=by
 obtain ⟨gA,gC,hw,hBn⟩:=L.cells 0 G hG
 have e10:tv [10] = .str 1 10:=rfl
 rw [e10] at gA
 obtain ⟨G1,hG1⟩:=lines_loop (cp:=cp) (fuel:=fuel) T S L hs s.length s 0 G rfl (Nat.le_refl _) rfl hG gB
 rcases hG1 with ⟨i',a1,a2,a3⟩ | ⟨j',rest',a1,a2,a3,a4⟩
 ·refine ⟨G1,Or.inl ⟨i',a1,a2⟩,fun d k => ?_⟩
  rw [call_entry T.k57 rfl rfl]
  simp only [go_sem,↓op_app,reduceCtorEq,Nat.reduceAdd,Nat.reduceSub,Nat.reduceMul,Nat.reduceEqDiff,Nat.reduceLT,Nat.reduceDiv,Nat.reduceMod,Nat.reduceLeDiff,↓reduceIte,c57,gA]
  refine a3 d _ fuel _ (by omega) ?_ ?_ ?_ ?_ _ fun e' => ?_
  ·simp only [go_sem,reduceCtorEq,↓reduceIte]
  ·simp only [go_sem,reduceCtorEq,↓reduceIte]
  ·simp only [go_sem,reduceCtorEq,↓reduceIte]
  ·simp only [go_sem,reduceCtorEq,↓reduceIte]
  ·simp only [go_sem,reduceCtorEq,↓reduceIte]
 ·obtain ⟨y1,y2⟩:=drop_step a1
  have hj:j'+1=(linesP s).length:=by
   have h1:=congrArg List.length a1
   rw [List.length_drop] at h1
   simp at h1
   omega
  rcases L.go j' _ G1 y1 a2 with ⟨G2,hG2,hB2,z2⟩ | ⟨G2,hQ,z2⟩
  ·refine ⟨G2,Or.inr (by rw [← hj];exact hG2),fun d k => ?_⟩
   have z2':=fun {k:K}=>z2 d k
   rw [call_entry T.k57 rfl rfl]
   simp only [go_sem,↓op_app,reduceCtorEq,Nat.reduceAdd,Nat.reduceSub,Nat.reduceMul,Nat.reduceEqDiff,Nat.reduceLT,Nat.reduceDiv,Nat.reduceMod,Nat.reduceLeDiff,↓reduceIte,c57,gA]
   refine a4 d _ fuel _ (by omega) ?_ ?_ ?_ ?_ _ fun e' q0 q2 => ?_
   ·simp only [go_sem,reduceCtorEq,↓reduceIte]
   ·simp only [go_sem,reduceCtorEq,↓reduceIte]
   ·simp only [go_sem,reduceCtorEq,↓reduceIte]
   ·simp only [go_sem,reduceCtorEq,↓reduceIte]
   ·simp only [go_sem,↓op_app,reduceCtorEq,Nat.reduceAdd,Nat.reduceSub,Nat.reduceMul,Nat.reduceEqDiff,Nat.reduceLT,Nat.reduceDiv,Nat.reduceMod,Nat.reduceLeDiff,↓reduceIte,q0,q2,a3,isOne_tv,z2']
  ·refine ⟨G2,Or.inl ⟨j',hQ,by omega⟩,fun d k => ?_⟩
   have z2':=fun {k:K}=>z2 d k
   rw [call_entry T.k57 rfl rfl]
   simp only [go_sem,↓op_app,reduceCtorEq,Nat.reduceAdd,Nat.reduceSub,Nat.reduceMul,Nat.reduceEqDiff,Nat.reduceLT,Nat.reduceDiv,Nat.reduceMod,Nat.reduceLeDiff,↓reduceIte,c57,gA]
   refine a4 d _ fuel _ (by omega) ?_ ?_ ?_ ?_ _ fun e' q0 q2 => ?_
   ·simp only [go_sem,reduceCtorEq,↓reduceIte]
   ·simp only [go_sem,reduceCtorEq,↓reduceIte]
   ·simp only [go_sem,reduceCtorEq,↓reduceIte]
   ·simp only [go_sem,reduceCtorEq,↓reduceIte]
   ·simp only [go_sem,↓op_app,reduceCtorEq,Nat.reduceAdd,Nat.reduceSub,Nat.reduceMul,Nat.reduceEqDiff,Nat.reduceLT,Nat.reduceDiv,Nat.reduceMod,Nat.reduceLeDiff,↓reduceIte,q0,q2,a3,isOne_tv,z2']
end
end Go.Ev
end
section
namespace Go.Ev
section
variable {id:Nat} {ph:Phi} {e:Env} {H:Heap} {k:K} {fuel:Nat} {kn:KE} {kx:Nat→KE}
theorem vCells_tv {l:List UInt8} {f:List V→R}:vCells id (tv l) f=f [tv l]:=Eq.trans rfl rfl
theorem evC_rangeN {g:Arg} {ps:List Slot} {sa bo:RC} {f:Nat} {caps:List V} (hw:H.wf) (hg:pgetA g e = .func f caps) (hf:f % 2=0) {G:Heap} {v:V}
  (hcall:∀ k:K,callP ph (.func f caps) [.yld H.n] (H.new (.loop 0 0 e ps sa bo)) k=k v G) {e':Env} {ps':List Slot} {sa' bo':RC} (hG:G.get H.n = .loop 0 0 e' ps' sa' bo') (hGw:G.wf) (hGn:H.n<G.n) :
  evC (.rangeN g ps sa bo) fuel ph e H kn kx=kn e (G.put H.n (.loop 3 0 e' ps' sa' bo')):=by
 show getA g e (fun g=>vFunc 0 g fun f caps=>Nat.rec (motive:=fun _=>R) (hNew H (.loop 0 0 e ps sa bo) fun b H=>ph (.func f caps) [.yld b] H fun _ H=>
  hGet H b fun bl=>bLoop bl fun st j e' ps' sa' bo'=>Nat.rec (motive:=fun _=>R) (hSet 0 H b (.loop 3 j e' ps' sa' bo') fun H=>Nat.rec (motive:=fun _=>R) (kn e H) (fun m _=>kx m e H) j) (fun s _=>Nat.rec (motive:=fun _=>R) (no 10) (fun _ _=>hSet 0 H b (.loop 3 j e' ps' sa' bo') fun H=>Nat.rec (motive:=fun _=>R) (kn e H) (fun m _=>kx m e H) j) s) st) (fun _ _=>no 14) (Nat.mod f 2))=_
 rw [getA_eq,hg]
 show Nat.rec (motive:=fun _=>R) _ _ (Nat.mod f 2)=_
 have hf':Nat.mod f 2=0:=hf
 rw [hf']
 show hNew H (.loop 0 0 e ps sa bo) (fun b H=>ph (.func f caps) [.yld b] H fun _ H=>_)=_
 rw [hNew_new hw]
 refine (hcall _).trans ?_
 rw [hGet_eq,hG]
 show hSet 0 G H.n (.loop 3 0 e' ps' sa' bo') (fun H=>kn e H)=_
 rw [hSet_put hGw hGn]
theorem evC_rangeF_out {g:Arg} {ps:List Slot} {sa bo:RC} {f:Nat} {caps:List V} (hw:H.wf) (hg:pgetA g e = .func f caps) (hf:f % 2=0) {G:Heap} {v:V}
  (hcall:∀ k:K,callP ph (.func f caps) [.yld (H.n+1)] ((H.new .mark).new (.loop 0 0 e ps sa bo)) k=k v G) {n:Nat} {e':Env} {ps':List Slot} {sa' bo':RC} (hG:G.get (H.n+1) = .loop 2 (n+1) e' ps' sa' bo') (hGw:G.wf) (hGn:H.n+1<G.n) :
  evC (.rangeF g ps sa bo) fuel ph e H kn kx=kx n e (G.put (H.n+1) (.loop 3 (n+1) e' ps' sa' bo')):=by
 show getA g e (fun g=>vFunc 0 g fun f caps=>Nat.rec (motive:=fun _=>R) (hNew H .mark fun _ H=>hNew H (.loop 0 0 e ps sa bo) fun b H=>ph (.func f caps) [.yld b] H fun _ H=>
  hGet H b fun bl=>bLoop bl fun st j e' ps' sa' bo'=>Nat.rec (motive:=fun _=>R) (hSet 0 H b (.loop 3 j e' ps' sa' bo') fun H=>Nat.rec (motive:=fun _=>R) (kn e H) (fun m _=>kx m e H) j) (fun s _=>Nat.rec (motive:=fun _=>R) (no 10) (fun _ _=>hSet 0 H b (.loop 3 j e' ps' sa' bo') fun H=>Nat.rec (motive:=fun _=>R) (kn e H) (fun m _=>kx m e H) j) s) st) (fun _ _=>no 14) (Nat.mod f 2))=_
 rw [getA_eq,hg]
 show Nat.rec (motive:=fun _=>R) _ _ (Nat.mod f 2)=_
 have hf':Nat.mod f 2=0:=hf
 rw [hf']
 show hNew H .mark (fun _ H=>hNew H (.loop 0 0 e ps sa bo) fun b H=>ph (.func f caps) [.yld b] H fun _ H=>_)=_
 rw [hNew_new hw,hNew_new (by rw [Heap.wf_new];exact hw),Heap.n_new]
 refine (hcall _).trans ?_
 rw [hGet_eq,hG]
 show hSet 0 G (H.n+1) (.loop 3 (n+1) e' ps' sa' bo') (fun H=>kx n e H)=_
 rw [hSet_put hGw hGn]
theorem evY_out {cp:RC→CodeE} {b:Nat} {args:List V} {e0 e1 e2:Env} {ps:List Slot} {sa bo:RC} {H2 H3:Heap} {n:Nat} (hb:H.get b = .loop 0 0 e0 ps sa bo) (hps:∀ f:Env→R,setPs ps args e0 f=f e1)
  (has:∀ (kn:KE) (kx:Nat→KE),evC (cp sa) fuel ph e1 H kn kx=kn e2 H2) (h2:H2.get b = .loop 0 0 e0 ps sa bo) (hw2:H2.wf) (hn2:b<H2.n)
  (hbo:∀ (kn:KE) (kx:Nat→KE),∃ e3,evC (cp bo) fuel ph e2 (H2.put b (.loop 1 0 e0 ps sa bo)) kn kx=kx n e3 H3) (h3:H3.get b = .loop 1 0 e0 ps sa bo) (hw3:H3.wf) (hn3:b<H3.n) :
  evY cp fuel ph b args H k=k (.bool false) (H3.put b (.loop 2 (n+1) e0 ps sa bo)):=by
 unfold evY
 rw [hGet_eq,hb]
 show setPs ps args e0 _=_
 rw [hps,has,hGet_eq,h2]
 show hSet 0 H2 b (.loop 1 0 e0 ps sa bo) (fun H=>evC (cp bo) fuel ph e2 H
   (fun _ H=>hGet H b fun bl=>bLoop bl fun _ _ e' ps' sa' bo'=>hSet 0 H b (.loop 0 0 e' ps' sa' bo') fun H=>k (.bool true) H)
   fun n _ H=>hGet H b fun bl=>bLoop bl fun _ _ e' ps' sa' bo'=>hSet 0 H b (.loop 2 (Nat.succ n) e' ps' sa' bo') fun H=>k (.bool false) H)=_
 rw [hSet_put hw2 hn2]
 obtain ⟨e3,he⟩:=hbo (fun _ H=>hGet H b fun bl=>bLoop bl fun _ _ e' ps' sa' bo'=>hSet 0 H b (.loop 0 0 e' ps' sa' bo') fun H=>k (.bool true) H)
  (fun n _ H=>hGet H b fun bl=>bLoop bl fun _ _ e' ps' sa' bo'=>hSet 0 H b (.loop 2 (Nat.succ n) e' ps' sa' bo') fun H=>k (.bool false) H)
 rw [he,hGet_eq,h3]
 show hSet 0 H3 b (.loop 2 (Nat.succ n) e0 ps sa bo) (fun H=>k (.bool false) H)=_
 rw [hSet_put hw3 hn3]
end
section
variable {t:Nat→Option FnE} {cp:RC→CodeE} {fuel:Nat} {dec:List UInt8→Nat × Nat} {num:List UInt8→Nat}
theorem words_call (T:TCode t) {G:Heap} (hw:G.wf) {s:List UInt8} (d:Nat) (k:K):callP (evP cp t fuel (d+2)) (.func 50 []) [tv s] G k=k (.func 120 [.ptr G.n 0, .ptr (G.n+1) 0]) ((G.new (.cells [tv s])).new (.cells [.func 86 []])):=by
 have z1:∀ {k:K},callP (evP cp t fuel (d+1)) (.func 84 []) [tv s, .func 86 []] G k=k (.func 120 [.ptr G.n 0, .ptr (G.n+1) 0]) ((G.new (.cells [tv s])).new (.cells [.func 86 []])):=fun {k}=>by
  rw [call_entry T.k42 rfl rfl]
  simp only [go_sem,↓op_app,reduceCtorEq,Nat.reduceAdd,Nat.reduceSub,Nat.reduceMul,Nat.reduceEqDiff,Nat.reduceLT,Nat.reduceDiv,Nat.reduceMod,Nat.reduceLeDiff,↓reduceIte,c42,vCells_tv,isOne_tv,hw]
 rw [call_entry T.k25 rfl rfl]
 simp only [go_sem,↓op_app,reduceCtorEq,Nat.reduceAdd,Nat.reduceSub,Nat.reduceMul,Nat.reduceEqDiff,Nat.reduceLT,Nat.reduceDiv,Nat.reduceMod,Nat.reduceLeDiff,↓reduceIte,c25,z1]
theorem Gr.put {H G:Heap} {v:V} {size n j:Nat} {row:List V} {x:Blk} (h:Gr H G v size n row) (hw:G.wf) (hj:j<G.n) (ho:Off v j):Gr H (G.put j x) v size n row:=by
 obtain ⟨h1,h2,h | ⟨b,c,s,rfl,g2,g3,g4,g5,g6⟩⟩:=h
 ·exact ⟨h1,h2,Or.inl h⟩
 ·exact ⟨h1,h2,Or.inr ⟨b,c,s,rfl,g2,g3,by rw [Heap.get_put hw hj,if_neg (fun e=>ho _ _ _ _ _ rfl e.symm)];exact g4,g5,by rw [Heap.n_put];exact g6⟩⟩
theorem Gr.is1 {H G:Heap} {v:V} {size n:Nat} {row:List V} (h:Gr H G v size n row) {id:Nat} {k:R}:isOne id v k=k:=is1_of h.one
structure WI (G0 Gs:Heap) (W y:Nat) (e:Env) (F:List (List UInt8)) (i:Nat) (G:Heap):Prop where
 f:Fresh G0 G
 n:Gs.n≤G.n
 same:∀ j,j<Gs.n→j≠W→j≠y→G.get j=Gs.get j
 lp:G.get y = .loop 0 0 e [⟨.i0, .i2, .i7⟩] r11n.1 r11n.2
 w:∃ v,G.get W = .cells [v]∧Gr G0 G v 1 i ((F.take i).map tv) ∧ ∀ j,j<Gs.n→Off v j
theorem word_round (hca:cp r11n.1=c11na) (hcb:cp r11n.2=c11nb) {G0 Gs:Heap} {W y:Nat} {e:Env} {F:List (List UInt8)} (hF:F.length<1000000) (hW0:G0.n≤W) (hy0:G0.n≤y) (hWs:W<Gs.n) (hys:y<Gs.n) (hWy:W≠y) (he:pget ⟨.i0, .i1, .i1⟩ e = .ptr W 0)
  {i:Nat} {w:List UInt8} {G:Heap} (hi:F[i]? = some w) (h:WI G0 Gs W y e F i G):∃ G',WI G0 Gs W y e F (i+1) G' ∧ ∀ (d:Nat) (k:K),callP (evP cp t fuel (d+1)) (.yld y) [tv w] G k=k (.bool true) G':=by
 obtain ⟨f,n,same,lp,v,gW,hv,hoff⟩:=h
 have hw:=f.wf
 have hyG:y<G.n:=by omega
 have hWG:W<G.n:=by omega
 have hilt:i<F.length:=by
  rcases Nat.lt_or_ge i F.length with h | h
  ·exact h
  ·rw [List.getElem?_eq_none h] at hi;cases hi
 generalize hG1:G.put y (.loop 1 0 e [⟨.i0, .i2, .i7⟩] r11n.1 r11n.2)=G1
 have f1:Fresh G0 G1:=by rw [← hG1];exact f.put hy0 hyG
 have g1n:G1.n=G.n:=by rw [← hG1,Heap.n_put]
 have g1o:∀ j,j≠y→G1.get j=G.get j:=fun j hj=>by rw [← hG1,Heap.get_put hw hyG,if_neg hj]
 have g1y:G1.get y = .loop 1 0 e [⟨.i0, .i2, .i7⟩] r11n.1 r11n.2:=by rw [← hG1,Heap.get_put hw hyG,if_pos rfl]
 have v1:Gr G0 G1 v 1 i ((F.take i).map tv):=by rw [← hG1];exact hv.put hw hyG (hoff y hys)
 have hw1:=f1.wf
 generalize hG2:G1.new (.cells [tv w])=G2
 have f2:Fresh G0 G2:=by rw [← hG2];exact f1.trans (Fresh.new hw1)
 have f12:Fresh G1 G2:=by rw [← hG2];exact Fresh.new hw1
 have g2n:G2.n=G.n+1:=by rw [← hG2,Heap.n_new,g1n]
 have g2x:G2.get G1.n = .cells [tv w]:=by rw [← hG2,Heap.get_new hw1,if_pos rfl]
 obtain ⟨v',G3,z3,hv3,f3,o3,n3,off3⟩:=(v1.fresh f12).app (cx:=2) (sx:=0) f2 g2x rfl (fun v hv=>by simp at hv;subst hv;rfl) (by omega)
 have hw3:=f3.wf
 have hW3:W<G3.n:=by omega
 have hy3:y<G3.n:=by omega
 have g1W:G1.get W = .cells [v]:=(g1o W hWy).trans gW
 have g3o:∀ j,j<Gs.n→G3.get j=G1.get j:=fun j hj=>(o3 j (by omega) (hoff j hj)).trans (f12.same j (by omega))
 have g3W:G3.get W = .cells [v]:=(g3o W hWs).trans g1W
 have i1:∀ {id:Nat} {k:R},isOne id v k=k:=fun {id k}=>hv.is1
 have i3:∀ {id:Nat} {k:R},isOne id v' k=k:=fun {id k}=>hv3.is1
 have hv4:=hv3.put (x := .cells [v']) hw3 hW3 (off3 W (by omega))
 have hw4:(G3.put W (.cells [v'])).wf:=by rw [Heap.wf_put];exact hw3
 have hy4:y < (G3.put W (.cells [v'])).n:=by rw [Heap.n_put];exact hy3
 have hv5:=hv4.put (x := .loop 0 0 e [⟨.i0, .i2, .i7⟩] r11n.1 r11n.2) hw4 hy4 (off3 y (by omega))
 have htk:(F.take (i+1)).map tv=(F.take i).map tv ++ [tv w]:=by
  rw [List.take_add_one,hi,List.map_append]
  rfl
 refine ⟨(G3.put W (.cells [v'])).put y (.loop 0 0 e [⟨.i0, .i2, .i7⟩] r11n.1 r11n.2),⟨(f3.put hW0 hW3).put hy0 hy4,by rw [Heap.n_put,Heap.n_put];omega,fun j hj h1 h2 => ?_, ?_,v', ?_, ?_,fun j hj=>off3 j (by omega)⟩,fun d k => ?_⟩
 ·rw [Heap.get_put hw4 hy4,if_neg h2,Heap.get_put hw3 hW3,if_neg h1,g3o j hj,g1o j h2]
  exact same j hj h1 h2
 ·rw [Heap.get_put hw4 hy4,if_pos rfl]
 ·rw [Heap.get_put hw4 hy4,if_neg hWy,Heap.get_put hw3 hW3,if_pos rfl]
 ·rw [htk];exact hv5
 ·rw [callP_yld]
  refine evY_round (e1:=pset ⟨.i0, .i2, .i7⟩ (tv w) e) (e2:=pset ⟨.i0, .i1, .i2⟩ (tv w) (pset ⟨.i0, .i2, .i7⟩ (tv w) e)) (H2:=G) lp (fun f=>by simp only [go_sem,reduceCtorEq,↓reduceIte]) (fun kn kx => ?_) lp hw hyG (fun kn kx => ?_) ?_ hw4 hy4
  ·rw [hca]
   simp only [go_sem,↓op_app,reduceCtorEq,Nat.reduceAdd,Nat.reduceSub,Nat.reduceMul,Nat.reduceEqDiff,Nat.reduceLT,Nat.reduceDiv,Nat.reduceMod,Nat.reduceLeDiff,↓reduceIte,c11na]
  ·rw [hcb,hG1]
   have z3':∀ {id:Nat} {ph:Phi} {e':Env} {k:K},pgetA (.s ⟨.i0, .i3, .i0⟩) e'=v→pgetA (.s ⟨.i0, .i3, .i2⟩) e' = .slice G1.n 0 1 2 0→evOp (.app false 1 (.s ⟨.i0, .i3, .i0⟩) (.s ⟨.i0, .i3, .i2⟩)) id ph e' G2 k=k v' G3:=fun {id ph e' k} h1 h2=>z3 h1 h2
   refine ⟨?_, ?_⟩
   rotate_left
   ·simp only [go_sem,reduceCtorEq,Nat.reduceAdd,Nat.reduceSub,Nat.reduceMul,Nat.reduceEqDiff,Nat.reduceLT,Nat.reduceDiv,Nat.reduceMod,Nat.reduceLeDiff,↓reduceIte,c11nb,he,g1W,i1,i3,isOne_tv,vCells_tv,hw1,hG2,↓z3',hw3,hW3,g3W] <;> rfl
  ·rw [Heap.get_put hw3 hW3,if_neg (Ne.symm hWy),g3o y hys]
   exact g1y
structure PS (H:Heap) (M R0 E0 O W:Nat) (e:Env):Prop where
 a2:pget ⟨.i0, .i0, .i2⟩ e = .ptr R0 0
 a3:pget ⟨.i0, .i0, .i3⟩ e = .ptr E0 0
 a4:pget ⟨.i0, .i0, .i4⟩ e = .ptr M 0
 a6:pget ⟨.i0, .i0, .i6⟩ e = .ptr O 0
 a7:pget ⟨.i0, .i0, .i7⟩ e = .ptr W 0
theorem fields_len:∀ (s cur:List UInt8),(fieldsGo s cur).length≤s.length+1 ∧ ∀ x ∈ fieldsGo s cur,x≠[]∧x.length≤cur.length+s.length
 | [],cur=>by
  rw [fieldsGo]
  split
  ·simp
  ·rename_i h
   exact ⟨by simp,fun x hx=>by simp at hx;subst hx;exact ⟨h,by simp⟩⟩
 | b :: l,cur=>by
  rw [fieldsGo]
  split
  ·obtain ⟨h1,h2⟩:=fields_len l []
   split
   ·exact ⟨by simp;omega,fun x hx=>⟨(h2 x hx).1,by have:=(h2 x hx).2;simp at this ⊢;omega⟩⟩
   ·rename_i h
    refine ⟨by simp;omega,fun x hx => ?_⟩
    rcases List.mem_cons.1 hx with rfl | hx
    ·exact ⟨h,by simp⟩
    ·exact ⟨(h2 x hx).1,by have:=(h2 x hx).2;simp at this ⊢;omega⟩
  ·obtain ⟨h1,h2⟩:=fields_len l (cur ++ [b])
   exact ⟨by simp;omega,fun x hx=>⟨(h2 x hx).1,by have:=(h2 x hx).2;simp at this ⊢;omega⟩⟩
theorem words_run (T:TCode t) (S:SNat t dec num) (hca:cp r11n.1=c11na) (hcb:cp r11n.2=c11nb) (hfu:1000001<fuel) {s:List UInt8} (hs:s.length<999990) {G0 G:Heap} {W:Nat} (f:Fresh G0 G) (hW0:G0.n≤W) (hWn:W<G.n) (gW:G.get W = .cells [.nils])
  {e:Env} (h10:pget ⟨.i0, .i1, .i0⟩ e=tv s) (h11:pget ⟨.i0, .i1, .i1⟩ e = .ptr W 0) :
  ∃ G' v,Fresh G0 G'∧G.n≤G'.n∧(∀ j,j<G.n→j≠W→G'.get j=G.get j)∧G'.get W = .cells [v]∧WS G' v (fieldsP s)∧(∀ j,j<G.n→Off v j) ∧
   ∀ (d:Nat) (kn:KE) (kx:Nat→KE) (x:R),(evC c11q2 fuel (evP cp t fuel (d+3)) (pset ⟨.i0, .i2, .i6⟩ (.func 120 [.ptr G.n 0, .ptr (G.n+1) 0]) (pset ⟨.i0, .i2, .i5⟩ (tv s) e)) G' kn kx=x)→evC c11q1 fuel (evP cp t fuel (d+3)) e G kn kx=x:=by
 have hw:=f.wf
 have hn:=f.n
 generalize he1:pset ⟨.i0, .i2, .i6⟩ (.func 120 [.ptr G.n 0, .ptr (G.n+1) 0]) (pset ⟨.i0, .i2, .i5⟩ (tv s) e)=e1
 have e11:pget ⟨.i0, .i1, .i1⟩ e1 = .ptr W 0:=by rw [← he1];simp only [go_sem,↓op_app,reduceCtorEq,Nat.reduceAdd,Nat.reduceSub,Nat.reduceMul,Nat.reduceEqDiff,Nat.reduceLT,Nat.reduceDiv,Nat.reduceMod,Nat.reduceLeDiff,↓reduceIte,h11]
 have e26:pget ⟨.i0, .i2, .i6⟩ e1 = .func 120 [.ptr G.n 0, .ptr (G.n+1) 0]:=by rw [← he1];simp only [go_sem,↓op_app,reduceCtorEq,Nat.reduceAdd,Nat.reduceSub,Nat.reduceMul,Nat.reduceEqDiff,Nat.reduceLT,Nat.reduceDiv,Nat.reduceMod,Nat.reduceLeDiff,↓reduceIte]
 generalize hGb:(G.new (.cells [tv s])).new (.cells [.func 86 []])=Gb
 have hwa:(G.new (.cells [tv s])).wf:=by rw [Heap.wf_new];exact hw
 have fb:Fresh G Gb:=by rw [← hGb];exact (Fresh.new hw).trans (Fresh.new hwa)
 have gbn:Gb.n=G.n+2:=by rw [← hGb,Heap.n_new,Heap.n_new]
 have gbB:Gb.get G.n = .cells [tv s]:=by rw [← hGb,Heap.get_new hwa,if_neg (by rw [Heap.n_new];omega),Heap.get_new hw,if_pos rfl]
 have gbC:Gb.get (G.n+1) = .cells [.func 86 []]:=by rw [← hGb,Heap.get_new hwa,if_pos (by rw [Heap.n_new])]
 have hwb:=fb.wf
 generalize hGs:Gb.new (.loop 0 0 e1 [⟨.i0, .i2, .i7⟩] r11n.1 r11n.2)=Gs
 have fs:Fresh G Gs:=by rw [← hGs];exact fb.trans (Fresh.new hwb)
 have gsn:Gs.n=G.n+3:=by rw [← hGs,Heap.n_new,gbn]
 have gso:∀ j,j<G.n+2→Gs.get j=Gb.get j:=fun j hj=>by rw [← hGs,Heap.get_new hwb,if_neg (by omega)]
 have gsy:Gs.get (G.n+2) = .loop 0 0 e1 [⟨.i0, .i2, .i7⟩] r11n.1 r11n.2:=by rw [← hGs,Heap.get_new hwb,if_pos gbn.symm]
 obtain ⟨fl,fx⟩:=fields_len s []
 have fl1:(fieldsP s).length<1000000:=by show (fieldsGo s []).length<_;omega
 have h0:WI G0 Gs W (G.n+2) e1 (fieldsP s) 0 Gs:=by
  refine ⟨f.trans fs,Nat.le_refl _,fun _ _ _ _=>rfl,gsy, .nils,(fs.same W hWn).trans gW, ?_,fun j _ b o n c s h=>by cases h⟩
  rw [List.take_zero]
  exact Gr.nils
 obtain ⟨j,Gf,hj,⟨ff,fn,fsame,flp,v,fW,fv,foff⟩,z⟩:=fields_call (cp:=cp) (fuel:=fuel) (q:=1) (B:=G.n) (C:=G.n+1) (y:=G.n+2) (I:=WI G0 Gs W (G.n+2) e1 (fieldsP s)) T S hfu (by omega)
  (fun j G' h=>⟨(h.same G.n (by omega) (by omega) (by omega)).trans ((gso _ (by omega)).trans gbB),(h.same (G.n+1) (by omega) (by omega) (by omega)).trans ((gso _ (by omega)).trans gbC)⟩)
  (fun j w G' hw' h=>by
   obtain ⟨G2,h2,z2⟩:=word_round (cp:=cp) (t:=t) (fuel:=fuel) hca hcb fl1 hW0 (by omega) (by omega) (by omega) (by omega) e11 hw' h
   exact ⟨G2,h2,fun d k=>z2 (d+1) k⟩) h0
 have hjl:j=(fieldsP s).length:=by
  have h1:=fv.1
  rw [List.length_map,List.length_take,Nat.mul_one] at h1
  rw [List.drop_eq_nil_iff] at hj
  omega
 have htk:(fieldsP s).take j=fieldsP s:=by rw [hjl,List.take_length]
 rw [htk,hjl] at fv
 have hwf:=ff.wf
 have hyf:G.n+2<Gf.n:=by omega
 have fv':=fv.put (x := .loop 3 0 e1 [⟨.i0, .i2, .i7⟩] r11n.1 r11n.2) hwf hyf (foff _ (by omega))
 refine ⟨Gf.put (G.n+2) (.loop 3 0 e1 [⟨.i0, .i2, .i7⟩] r11n.1 r11n.2),v,ff.put (by omega) hyf,by rw [Heap.n_put];omega,fun j hj hW => ?_, ?_, ?_,fun j hj=>foff j (by omega),fun d kn kx x hx => ?_⟩
 ·rw [Heap.get_put hwf hyf,if_neg (by omega),fsame j (by omega) hW (by omega)]
  exact fs.same j hj
 ·rw [Heap.get_put hwf hyf,if_neg (by omega)]
  exact fW
 ·obtain ⟨zr1,zr2,⟨rfl,zr3⟩ | ⟨b,c,sz,rfl,zr3,zr4,zr5,zr6,zr7⟩⟩:=fv'
  ·exact Or.inl ⟨Or.inl rfl,List.eq_nil_of_length_eq_zero zr3⟩
  ·refine Or.inr ⟨fun h=>by rw [h] at zr3;simp at zr3,b,0,c,sz,_,rfl, ?_,zr5,zr7,fun i w hi => ?_⟩
   ·rcases zr4 with zr4 | zr4
    ·exact Or.inr (by omega)
    ·exact Or.inl zr4
   ·rw [Nat.zero_add,List.getElem?_map,hi]
    rfl
 ·have z1:=fun {k:K}=>words_call (cp:=cp) (fuel:=fuel) T hw (s:=s) (d+1) k
  have z3:=fun {kn:KE} {kx:Nat→KE}=>evC_rangeN (ph:=evP cp t fuel (d+3)) (fuel:=fuel) (kn:=kn) (kx:=kx) (g := .s ⟨.i0, .i2, .i6⟩) (e:=e1) (ps:=[⟨.i0, .i2, .i7⟩]) (sa:=r11n.1) (bo:=r11n.2) hwb e26 rfl (G:=Gf) (v := .tup []) (by rw [hGs,gbn];exact fun k=>z d k) (by rw [gbn];exact flp) hwf (by rw [gbn];exact hyf)
  rw [gbn] at z3
  simp only [go_sem,↓op_app,reduceCtorEq,Nat.reduceAdd,Nat.reduceSub,Nat.reduceMul,Nat.reduceEqDiff,Nat.reduceLT,Nat.reduceDiv,Nat.reduceMod,Nat.reduceLeDiff,↓reduceIte,c11q1,h10,z1,hGb,he1,z3]
  exact hx
end
end Go.Ev
end
section
namespace Go.Ev
def Stps (l:List Stp):List V:=l.flatMap Stp.cells
theorem Stps_len:∀ l:List Stp,(Stps l).length=l.length * 4
 | []=>rfl
 | s :: l=>by
  show (s.cells ++ Stps l).length=_
  rw [List.length_append,Stps_len l,List.length_cons]
  show 4+_=_
  omega
def lineP (l:List UInt8):Option (List (List UInt8)):=if fieldsP l=[]∨((fieldsP l).headD []).headD 0=35 then none else some (fieldsP l)
def parseGo (num:List UInt8→Nat):List (List UInt8)→Nat→List Stp→Except (Nat × Nat) (List Stp)
 | [],_,acc => .ok acc
 | l :: ls,a,acc=>match lineP l with
  | none=>parseGo num ls (a+1) acc
  | some F=>if (stepP num F).2≠0 then .error ((stepP num F).2,a) else if acc.length=4096 then .error (3,a) else parseGo num ls (a+1) (acc ++ [(stepP num F).1])
theorem parseGo_app (num:List UInt8→Nat):∀ (x y:List (List UInt8)) (a:Nat) (acc:List Stp),parseGo num (x ++ y) a acc=match parseGo num x a acc with
  | .ok acc'=>parseGo num y (a+x.length) acc'
  | .error e => .error e
 | [],y,a,acc=>rfl
 | l :: x,y,a,acc=>by
  simp only [List.cons_append,parseGo]
  cases lineP l with
  | none=>
   simp only []
   rw [parseGo_app num x y (a+1) acc,show a+(l :: x).length=a+1+x.length by simp;omega]
  | some F=>
   simp only []
   split
   ·rfl
   ·split
    ·rfl
    ·rw [parseGo_app num x y (a+1) _,show a+(l :: x).length=a+1+x.length by simp;omega]
structure PC where
 H:Heap
 Hb:Heap
 e0:Env
 O:Nat
 T:Nat
 B:Nat
 y:Nat
structure PC.OK (P:PC):Prop where
 hO:P.H.n≤P.O
 hT:P.H.n≤P.T
 hB:P.H.n≤P.B
 hy:P.H.n≤P.y
 lO:P.O<P.Hb.n
 lT:P.T<P.Hb.n
 lB:P.B<P.Hb.n
 ly:P.y<P.Hb.n
 OT:P.O≠P.T
 OB:P.O≠P.B
 Oy:P.O≠P.y
 TB:P.T≠P.B
 Ty:P.T≠P.y
 By:P.B≠P.y
structure JG (P:PC) (lp:Blk) (a:Nat) (acc:List Stp) (bx:Blk) (G:Heap):Prop where
 f:Fresh P.H G
 n:P.Hb.n≤G.n
 same:∀ i,i<P.Hb.n→i≠P.O→i≠P.T→i≠P.B→i≠P.y→G.get i=P.Hb.get i
 lp:G.get P.y=lp
 at_:G.get P.T = .cells [.int 3 a]
 bB:G.get P.B=bx
 out:∃ v,G.get P.O = .cells [v]∧Gr P.H G v 4 acc.length (Stps acc) ∧ ∀ i,i<P.Hb.n→Off v i
theorem JG.fresh {P:PC} {lp:Blk} {a:Nat} {acc:List Stp} {bx:Blk} {G G':Heap} (kk:P.OK) (h:JG P lp a acc bx G) (f:Fresh G G'):JG P lp a acc bx G':=by
 obtain ⟨h1,h2,h3,h4,h5,hb,v,h6,h7,h8⟩:=h
 have l1:=kk.lO
 have l2:=kk.lT
 have l3:=kk.lB
 have l4:=kk.ly
 refine ⟨h1.trans f,Nat.le_trans h2 f.n,fun i hi a b c d=>(f.same i (by omega)).trans (h3 i hi a b c d),(f.same _ (by omega)).trans h4,(f.same _ (by omega)).trans h5,(f.same _ (by omega)).trans hb,v,(f.same _ (by omega)).trans h6,h7.fresh f,h8⟩
theorem JG.putY {P:PC} {lp lp':Blk} {a:Nat} {acc:List Stp} {bx:Blk} {G:Heap} (kk:P.OK) (h:JG P lp a acc bx G):JG P lp' a acc bx (G.put P.y lp'):=by
 obtain ⟨h1,h2,h3,h4,h5,hb,v,h6,h7,h8⟩:=h
 have l4:=kk.ly
 have hw:=h1.wf
 have hy:P.y<G.n:=by omega
 refine ⟨h1.put kk.hy hy,by rw [Heap.n_put];exact h2,fun i hi a b c d => ?_, ?_, ?_, ?_,v, ?_,h7.put hw hy (h8 _ l4),h8⟩
 ·rw [Heap.get_put hw hy,if_neg d];exact h3 i hi a b c d
 ·rw [Heap.get_put hw hy,if_pos rfl]
 ·rw [Heap.get_put hw hy,if_neg kk.Ty];exact h5
 ·rw [Heap.get_put hw hy,if_neg kk.By];exact hb
 ·rw [Heap.get_put hw hy,if_neg kk.Oy];exact h6
theorem JG.putT {P:PC} {lp:Blk} {a a':Nat} {acc:List Stp} {bx:Blk} {G:Heap} (kk:P.OK) (h:JG P lp a acc bx G):JG P lp a' acc bx (G.put P.T (.cells [.int 3 a'])):=by
 obtain ⟨h1,h2,h3,h4,h5,hb,v,h6,h7,h8⟩:=h
 have l4:=kk.lT
 have hw:=h1.wf
 have hy:P.T<G.n:=by omega
 refine ⟨h1.put kk.hT hy,by rw [Heap.n_put];exact h2,fun i hi a b c d => ?_, ?_, ?_, ?_,v, ?_,h7.put hw hy (h8 _ l4),h8⟩
 ·rw [Heap.get_put hw hy,if_neg b];exact h3 i hi a b c d
 ·rw [Heap.get_put hw hy,if_neg (Ne.symm kk.Ty)];exact h4
 ·rw [Heap.get_put hw hy,if_pos rfl]
 ·rw [Heap.get_put hw hy,if_neg (Ne.symm kk.TB)];exact hb
 ·rw [Heap.get_put hw hy,if_neg kk.OT];exact h6
theorem JG.putB {P:PC} {lp:Blk} {a:Nat} {acc:List Stp} {bx:Blk} {G:Heap} (kk:P.OK) (h:JG P lp a acc bx G) {x:Blk}:JG P lp a acc x (G.put P.B x):=by
 obtain ⟨h1,h2,h3,h4,h5,hb,v,h6,h7,h8⟩:=h
 have l4:=kk.lB
 have hw:=h1.wf
 have hy:P.B<G.n:=by omega
 refine ⟨h1.put kk.hB hy,by rw [Heap.n_put];exact h2,fun i hi a b c d => ?_, ?_, ?_, ?_,v, ?_,h7.put hw hy (h8 _ l4),h8⟩
 ·rw [Heap.get_put hw hy,if_neg c];exact h3 i hi a b c d
 ·rw [Heap.get_put hw hy,if_neg (Ne.symm kk.By)];exact h4
 ·rw [Heap.get_put hw hy,if_neg kk.TB];exact h5
 ·rw [Heap.get_put hw hy,if_pos rfl]
 ·rw [Heap.get_put hw hy,if_neg kk.OB];exact h6
theorem JG.app {P:PC} {lp:Blk} {a:Nat} {acc:List Stp} {bx:Blk} {G:Heap} (kk:P.OK) (h:JG P lp a acc bx G) {s:Stp} {X cx sx:Nat} (hX:G.get X = .cells s.cells) (hl:acc.length<1000000) :
  ∃ v v' G',G.get P.O = .cells [v]∧(∀ {id:Nat} {k:R},isOne id v k=k)∧(∀ {id:Nat} {k:R},isOne id v' k=k)∧G'.wf∧P.O<G'.n∧G'.get P.O = .cells [v]∧JG P lp a (acc ++ [s]) bx (G'.put P.O (.cells [v'])) ∧
   ∀ {id:Nat} {ph:Phi} {e:Env} {k:K} {x z:Arg},pgetA x e=v→pgetA z e = .slice X 0 1 cx sx→evOp (.app false 4 x z) id ph e G k=k v' G':=by
 obtain ⟨h1,h2,h3,h4,h5,hb,v,h6,h7,h8⟩:=h
 have l1:=kk.lO
 obtain ⟨v',G',z,hv',f',o',n',off'⟩:=h7.app (cx:=cx) (sx:=sx) h1 hX rfl (fun v hv=>by
  simp only [Stp.cells,List.mem_cons,List.not_mem_nil,or_false] at hv
  rcases hv with rfl | rfl | rfl | rfl <;> rfl) hl
 have hw:=f'.wf
 have hO:P.O<G'.n:=by omega
 have keep:∀ i,i<P.Hb.n→G'.get i=G.get i:=fun i hi=>o' i (by omega) (h8 i hi)
 have hO':G'.get P.O = .cells [v]:=(keep _ l1).trans h6
 refine ⟨v,v',G',h6,fun {id k}=>h7.is1,fun {id k}=>hv'.is1,hw,hO,hO',⟨f'.put kk.hO hO,by rw [Heap.n_put];omega,fun i hi a b c d => ?_, ?_, ?_, ?_,v', ?_, ?_,fun i hi=>off' i (by omega)⟩,z⟩
 ·rw [Heap.get_put hw hO,if_neg a,keep i hi];exact h3 i hi a b c d
 ·rw [Heap.get_put hw hO,if_neg (Ne.symm kk.Oy),keep _ kk.ly];exact h4
 ·rw [Heap.get_put hw hO,if_neg (Ne.symm kk.OT),keep _ kk.lT];exact h5
 ·rw [Heap.get_put hw hO,if_neg (Ne.symm kk.OB),keep _ kk.lB];exact hb
 ·rw [Heap.get_put hw hO,if_pos rfl]
 ·have hs:Stps (acc ++ [s])=Stps acc ++ s.cells:=by simp only [Stps,List.flatMap_append,List.flatMap_cons,List.flatMap_nil,List.append_nil]
  rw [hs,List.length_append]
  exact hv'.put hw hO (off' _ (by omega))
end Go.Ev
end
section
namespace Go.Ev
structure PE (P:PC) (R0 E0 M W:Nat) (e:Env):Prop where
 a2:pget ⟨.i0, .i0, .i2⟩ e = .ptr R0 0
 a3:pget ⟨.i0, .i0, .i3⟩ e = .ptr E0 0
 a4:pget ⟨.i0, .i0, .i4⟩ e = .ptr M 0
 a6:pget ⟨.i0, .i0, .i6⟩ e = .ptr P.O 0
 a7:pget ⟨.i0, .i0, .i7⟩ e = .ptr P.T 0
 a11:pget ⟨.i0, .i1, .i1⟩ e = .ptr W 0
structure PR0 (P:PC) (R0 E0 M m:Nat):Prop where
 gM:P.Hb.get M = .cells [.map m]
 Ml:M<P.Hb.n
 MO:M≠P.O
 MT:M≠P.T
 MB:M≠P.B
 My:M≠P.y
 gm:P.Hb.get m = .map (encT (kMap 12))
 ml:m<P.Hb.n
 mO:m≠P.O
 mT:m≠P.T
 mB:m≠P.B
 my:m≠P.y
section
variable {t:Nat→Option FnE} {cp:RC→CodeE} {fuel:Nat} {dec:List UInt8→Nat × Nat} {num:List UInt8→Nat}
theorem parse_q8 {P:PC} (kk:P.OK) {lp:Blk} {a:Nat} {acc:List Stp} {bx:Blk} {G:Heap} (h:JG P lp a acc bx G) {s:Stp} {X:Nat} (hX:G.get X = .cells s.cells) (hl:acc.length<1000000) :
  ∃ G',JG P lp a (acc ++ [s]) bx G' ∧ ∀ (ph:Phi) (kn:KE) (kx:Nat→KE) (e:Env) (x:R),pget ⟨.i0, .i0, .i6⟩ e = .ptr P.O 0→pget ⟨.i0, .i1, .i3⟩ e = .ptr X 0→(∀ e',kn e' G'=x)→evC c11q8 fuel ph e G kn kx=x:=by
 have hw:=h.f.wf
 generalize hG1:G.new (.cells s.cells)=G1
 have f1:Fresh G G1:=by rw [← hG1];exact Fresh.new hw
 have g1x:G1.get G.n = .cells s.cells:=by rw [← hG1,Heap.get_new hw,if_pos rfl]
 have h1:=h.fresh kk f1
 have hw1:=f1.wf
 obtain ⟨v,v',G2,y1,y2,y3,y4,y5,y6,y7,z⟩:=h1.app kk (cx:=2) (sx:=0) g1x hl
 have gO:G.get P.O = .cells [v]:=by
  obtain ⟨v0,w1,_,_⟩:=h.out
  have:=(f1.same P.O (by have:=h.n;have:=kk.lO;omega)).trans w1
  rw [w1,← y1,this]
 refine ⟨_,y7,fun ph kn kx e x q6 q13 hx => ?_⟩
 have e0:∀ {id:Nat} {f:List V→R},dropN id s.cells 0 f=f s.cells:=fun {id f}=>rfl
 have e1:∀ {id:Nat} {f:List V→R},takeN id s.cells 4 f=f s.cells:=fun {id f}=>rfl
 have e2:∀ {id:Nat} {x:R},allOne id s.cells x=x:=fun {id x}=>rfl
 have e3:∀ {id:Nat} {f:List V→R},setAt id s.cells [.int 3 0, .int 3 0, .int 3 0, .str 0 0] 0 f=f s.cells:=fun {id f}=>rfl
 have e4:List.take 4 s.cells=s.cells:=rfl
 have e5:s.cells.length=4:=rfl
 have z':∀ {id:Nat} {ph:Phi} {e':Env} {k:K},pgetA (.s ⟨.i0, .i7, .i7⟩) e'=v→pgetA (.s ⟨.i1, .i0, .i1⟩) e' = .slice G.n 0 1 2 0→evOp (.app false 4 (.s ⟨.i0, .i7, .i7⟩) (.s ⟨.i1, .i0, .i1⟩)) id ph e' G1 k=k v' G2:=fun {id ph e' k} h1 h2=>z h1 h2
 simp only [go_sem,reduceCtorEq,Nat.reduceAdd,Nat.reduceSub,Nat.reduceMul,Nat.reduceEqDiff,Nat.reduceLT,Nat.reduceDiv,Nat.reduceMod,Nat.reduceLeDiff,↓reduceIte,c11q8,q6,q13,gO,hX,hw,hG1,y2,y3,e0,e1,e2,e3,e4,e5,↓z',y4,y5,y6]
 exact hx _
theorem as_nil (S:SNat t dec num) {H:Heap} {k:K} {d:Nat} {x:V}:callP (evP cp t fuel (d+1)) (.func 54 []) [.nili,x] H k=k (.bool false) H:=by
 obtain ⟨g,h1,h2⟩:=S.as_
 rw [call_nat h1 rfl rfl]
 exact h2 x H k
theorem as_err (hA:t 27=some (.nat nAs)) {H:Heap} {k:K} {d b c z:Nat} (hb:H.get b = .cells [.int 3 z]) (hw:H.wf) (hn:b<H.n):callP (evP cp t fuel (d+1)) (.func 54 []) [.iface 25 (.int 3 c), .iface 70 (.ptr b 0)] H k=k (.bool true) (H.put b (.cells [.int 3 c])):=by
 rw [call_nat hA rfl rfl]
 show nAs [.iface 25 (.int 3 c), .iface 70 (.ptr b 0)] H k=_
 simp only [nAs,hb,and_self,if_true]
 exact hSet_put hw hn
theorem parse_q4 (T:TCode t) (S:SNat t dec num) {P:PC} (kk:P.OK) {R0 E0 M m W:Nat} (k0:PR0 P R0 E0 M m) {lp:Blk} {a:Nat} {acc:List Stp} {bx:Blk} {G:Heap} (h:JG P lp a acc bx G) {v:V} {w0:List UInt8} {l:List (List UInt8)} (gW:G.get W = .cells [v]) (hWn:W<G.n) (hv:WS G v (w0 :: l)) (hl:l.length<999999) (hx:∀ w ∈ w0 :: l,w.length≤16777216)
  (hs:(stepP num (w0 :: l)).2=0) (hacc:acc.length<4096) :
  ∃ G',JG P lp a (acc ++ [(stepP num (w0 :: l)).1]) bx G' ∧ ∀ (d:Nat) (kn:KE) (kx:Nat→KE) (e:Env) (x:R),PE P R0 E0 M W e→(∀ e',kn e' G'=x)→evC c11q4 fuel (evP cp t fuel (d+3)) e G kn kx=x:=by
 have hw:=h.f.wf
 have hn:=h.n
 have gM:G.get M = .cells [.map m]:=(h.same M k0.Ml k0.MO k0.MT k0.MB k0.My).trans k0.gM
 have gm:G.get m = .map (encT (kMap 12)):=(h.same m k0.ml k0.mO k0.mT k0.mB k0.my).trans k0.gm
 have hml:=k0.ml
 obtain ⟨G1,f1,z1⟩:=step_call (cp:=cp) (fuel:=fuel) T S hw gm (by omega) hv hl hx
 rw [hs] at z1
 generalize hse:(stepP num (w0 :: l)).1=s at z1
 have z1':=fun {d:Nat} {k:K}=>z1 d k
 have hw1:=f1.wf
 have e0:errV 0 = .nili:=rfl
 rw [e0] at z1'
 generalize hG2:(G1.new (.cells [.int 3 0, .int 3 0, .int 3 0, .str 0 0])).put G1.n (.cells s.cells)=G2
 have f12:Fresh G1 (G1.new (.cells [.int 3 0, .int 3 0, .int 3 0, .str 0 0])):=Fresh.new hw1
 have g1l:G1.n<G1.n+1:=by omega
 have f2:Fresh G G2:=by rw [← hG2];exact f1.trans (f12.put (Nat.le_refl _) (by rw [Heap.n_new];omega))
 have g2x:G2.get G1.n = .cells s.cells:=by rw [← hG2,Heap.get_put f12.wf (by rw [Heap.n_new];omega),if_pos rfl]
 have g2n:G2.n=G1.n+1:=by rw [← hG2,Heap.n_put,Heap.n_new]
 have hw2:=f2.wf
 generalize hG3:G2.new (.cells [.int 3 0])=G3
 have f3:Fresh G2 G3:=by rw [← hG3];exact Fresh.new hw2
 have h3:=(h.fresh kk f2).fresh kk f3
 obtain ⟨G4,h4,z4⟩:=parse_q8 (fuel:=fuel) kk h3 (X:=G1.n) (s:=s) ((f3.same _ (by omega)).trans g2x) (by omega)
 obtain ⟨vo,gO,hvo,_⟩:=(h.fresh kk f2).out
 have e1:∀ {id:Nat} {f:Nat→R},vSliceN id vo (fun _ _ len _ _=>f len) (f 0)=f acc.length:=fun {id f}=>hvo.sn
 have e2:∀ {id id2:Nat} {k:K},vSliceN id vo (fun _ _ n _ _=>lenR id2 n G2 k) (lenR id2 0 G2 k)=k (.int 3 acc.length) G2:=fun {id id2 k}=>(e1 (f:=fun n=>lenR id2 n G2 k)).trans (by rw [lenR_eq,if_pos (by omega)])
 have e3:∀ {id:Nat} {k:R},isOne id vo k=k:=fun {id k}=>hvo.is1
 have e4:¬ acc.length=4096:=by omega
 have e5:s.cells.length=4:=rfl
 have e6:∀ {id:Nat} {x:R},allOne id s.cells x=x:=fun {id x}=>rfl
 have e7:∀ {id:Nat} {f:List V→R},setAt id s.cells [.int 3 0, .int 3 0, .int 3 0, .str 0 0] 0 f=f s.cells:=fun {id f}=>rfl
 have e8:∀ {id:Nat} {x:R},isOne id v x=x:=fun {id x}=>hv.one
 refine ⟨G4,h4,fun d kn kx e x E hx => ?_⟩
 have q4:=E.a4
 have q6:=E.a6
 have q11:=E.a11
 have z5:=fun {k:K} {x:V}=>as_nil (cp:=cp) (fuel:=fuel) (d:=d+2) (H:=G3) (k:=k) (x:=x) S
 simp only [go_sem,↓op_app,reduceCtorEq,Nat.reduceAdd,Nat.reduceSub,Nat.reduceMul,Nat.reduceEqDiff,Nat.reduceLT,Nat.reduceDiv,Nat.reduceMod,Nat.reduceLeDiff,↓reduceIte,c11q4,q4,q6,q11,gM,gW,e8,z1',hw1,g1l,e5,e6,e7,hG2]
 simp only [go_sem,↓op_app,reduceCtorEq,Nat.reduceAdd,Nat.reduceSub,Nat.reduceMul,Nat.reduceEqDiff,Nat.reduceLT,Nat.reduceDiv,Nat.reduceMod,Nat.reduceLeDiff,↓reduceIte,c11q5,c11q6,q6,gO,e2,e3,e4,hw2,hG3]
 simp only [go_sem,↓op_app,reduceCtorEq,Nat.reduceAdd,Nat.reduceSub,Nat.reduceMul,Nat.reduceEqDiff,Nat.reduceLT,Nat.reduceDiv,Nat.reduceMod,Nat.reduceLeDiff,↓reduceIte,c11q7,z5]
 refine z4 _ kn kx _ x ?_ ?_ hx
 ·simp only [go_sem,reduceCtorEq,↓reduceIte,q6]
 ·simp only [go_sem,reduceCtorEq,↓reduceIte]
end
end Go.Ev
end
section
namespace Go.Ev
section
variable {id:Nat} {ph:Phi} {e:Env} {H:Heap} {k:K} {fuel:Nat}
theorem evY_roundC {cp:RC→CodeE} {b:Nat} {args:List V} {e0 e1 e2:Env} {ps:List Slot} {sa bo:RC} {H2 H3:Heap} (hb:H.get b = .loop 0 0 e0 ps sa bo) (hps:∀ f:Env→R,setPs ps args e0 f=f e1)
  (has:∀ (kn:KE) (kx:Nat→KE),evC (cp sa) fuel ph e1 H kn kx=kn e2 H2) (h2:H2.get b = .loop 0 0 e0 ps sa bo) (hw2:H2.wf) (hn2:b<H2.n)
  (hbo:∀ (kn:KE) (kx:Nat→KE) (x:R),(∀ e3,kn e3 H3=x)→evC (cp bo) fuel ph e2 (H2.put b (.loop 1 0 e0 ps sa bo)) kn kx=x) (h3:H3.get b = .loop 1 0 e0 ps sa bo) (hw3:H3.wf) (hn3:b<H3.n) :
  evY cp fuel ph b args H k=k (.bool true) (H3.put b (.loop 0 0 e0 ps sa bo)):=by
 unfold evY
 rw [hGet_eq,hb]
 show setPs ps args e0 _=_
 rw [hps,has,hGet_eq,h2]
 show hSet 0 H2 b (.loop 1 0 e0 ps sa bo) (fun H=>evC (cp bo) fuel ph e2 H
   (fun _ H=>hGet H b fun bl=>bLoop bl fun _ _ e' ps' as' bo'=>hSet 0 H b (.loop 0 0 e' ps' as' bo') fun H=>k (.bool true) H)
   fun n _ H=>hGet H b fun bl=>bLoop bl fun _ _ e' ps' as' bo'=>hSet 0 H b (.loop 2 (Nat.succ n) e' ps' as' bo') fun H=>k (.bool false) H)=_
 rw [hSet_put hw2 hn2]
 refine hbo _ _ _ fun e3 => ?_
 rw [hGet_eq,h3]
 show hSet 0 H3 b (.loop 0 0 e0 ps sa bo) (fun H=>k (.bool true) H)=_
 rw [hSet_put hw3 hn3]
theorem evY_outC {cp:RC→CodeE} {b:Nat} {args:List V} {e0 e1 e2:Env} {ps:List Slot} {sa bo:RC} {H2 H3:Heap} {n:Nat} (hb:H.get b = .loop 0 0 e0 ps sa bo) (hps:∀ f:Env→R,setPs ps args e0 f=f e1)
  (has:∀ (kn:KE) (kx:Nat→KE),evC (cp sa) fuel ph e1 H kn kx=kn e2 H2) (h2:H2.get b = .loop 0 0 e0 ps sa bo) (hw2:H2.wf) (hn2:b<H2.n)
  (hbo:∀ (kn:KE) (kx:Nat→KE) (x:R),(∀ e3,kx n e3 H3=x)→evC (cp bo) fuel ph e2 (H2.put b (.loop 1 0 e0 ps sa bo)) kn kx=x) (h3:H3.get b = .loop 1 0 e0 ps sa bo) (hw3:H3.wf) (hn3:b<H3.n) :
  evY cp fuel ph b args H k=k (.bool false) (H3.put b (.loop 2 (n+1) e0 ps sa bo)):=by
 unfold evY
 rw [hGet_eq,hb]
 show setPs ps args e0 _=_
 rw [hps,has,hGet_eq,h2]
 show hSet 0 H2 b (.loop 1 0 e0 ps sa bo) (fun H=>evC (cp bo) fuel ph e2 H
   (fun _ H=>hGet H b fun bl=>bLoop bl fun _ _ e' ps' as' bo'=>hSet 0 H b (.loop 0 0 e' ps' as' bo') fun H=>k (.bool true) H)
   fun n _ H=>hGet H b fun bl=>bLoop bl fun _ _ e' ps' as' bo'=>hSet 0 H b (.loop 2 (Nat.succ n) e' ps' as' bo') fun H=>k (.bool false) H)=_
 rw [hSet_put hw2 hn2]
 refine hbo _ _ _ fun e3 => ?_
 rw [hGet_eq,h3]
 show hSet 0 H3 b (.loop 2 (Nat.succ n) e0 ps sa bo) (fun H=>k (.bool false) H)=_
 rw [hSet_put hw3 hn3]
end
theorem WS.put {H:Heap} {v:V} {l:List (List UInt8)} {j:Nat} {x:Blk} (h:WS H v l) (hw:H.wf) (hj:j<H.n) (ho:Off v j):WS (H.put j x) v l:=by
 rcases h with h | ⟨h1,b,o,c,s,row,rfl,h2,h3,h4,h5⟩
 ·exact Or.inl h
 ·exact Or.inr ⟨h1,b,o,c,s,row,rfl,h2,by rw [Heap.get_put hw hj,if_neg (fun e=>ho _ _ _ _ _ rfl e.symm)];exact h3,by rw [Heap.n_put];exact h4,h5⟩
noncomputable abbrev lpS (P:PC) (st j:Nat):Blk := .loop st j P.e0 [⟨.i0, .i2, .i4⟩] r11.1 r11.2
structure PE0 (P:PC) (R0 E0 M:Nat) (e:Env):Prop where
 a2:pget ⟨.i0, .i0, .i2⟩ e = .ptr R0 0
 a3:pget ⟨.i0, .i0, .i3⟩ e = .ptr E0 0
 a4:pget ⟨.i0, .i0, .i4⟩ e = .ptr M 0
 a6:pget ⟨.i0, .i0, .i6⟩ e = .ptr P.O 0
 a7:pget ⟨.i0, .i0, .i7⟩ e = .ptr P.T 0
structure CPs (cp:RC→CodeE):Prop where
 a:cp r11.1=c11a
 b:cp r11.2=c11b
 na:cp r11n.1=c11na
 nb:cp r11n.2=c11nb
section
variable {t:Nat→Option FnE} {cp:RC→CodeE} {fuel:Nat} {dec:List UInt8→Nat × Nat} {num:List UInt8→Nat}
theorem parse_q3 (T:TCode t) (S:SNat t dec num) {P:PC} (kk:P.OK) {R0 E0 M m W:Nat} (k0:PR0 P R0 E0 M m) {lp:Blk} {a:Nat} {acc:List Stp} {bx:Blk} {G:Heap} (h:JG P lp a acc bx G) {v:V} {F:List (List UInt8)} (gW:G.get W = .cells [v]) (hWn:W<G.n) (hv:WS G v F) (hl:F.length<999999) (hx:∀ w ∈ F,w≠[]∧w.length≤16777216) (hacc:acc.length≤4096) {acc':List Stp}
  (hok:(if F=[]∨(F.headD []).headD 0=35 then acc'=acc else (stepP num F).2=0∧acc.length<4096∧acc'=acc ++ [(stepP num F).1])) :
  ∃ G',JG P lp a acc' bx G' ∧ ∀ (d:Nat) (kn:KE) (kx:Nat→KE) (e:Env) (x:R),PE P R0 E0 M W e→(∀ e',kn e' G'=x)→(∀ e',kx 2 e' G'=x)→evC c11q3 fuel (evP cp t fuel (d+3)) e G kn kx=x:=by
 have e8:∀ {id:Nat} {x:R},isOne id v x=x:=fun {id x}=>hv.one
 have e2:∀ {id id2:Nat} {k:K},vSliceN id v (fun _ _ n _ _=>lenR id2 n G k) (lenR id2 0 G k)=k (.int 3 F.length) G:=fun {id id2 k}=>(hv.len (f:=fun n=>lenR id2 n G k)).trans (by rw [lenR_eq,if_pos (by omega)])
 cases F with
 | nil=>
  rw [if_pos (Or.inl rfl)] at hok
  subst hok
  refine ⟨G,h,fun d kn kx e x E hn hx => ?_⟩
  have q11:=E.a11
  rw [List.length_nil] at e2
  simp only [go_sem,↓op_app,reduceCtorEq,Nat.reduceAdd,Nat.reduceSub,Nat.reduceMul,Nat.reduceEqDiff,Nat.reduceLT,Nat.reduceDiv,Nat.reduceMod,Nat.reduceLeDiff,↓reduceIte,c11q3,q11,gW,e8,e2]
  exact hx _
 | cons w0 l=>
  obtain ⟨b0,w',rfl⟩:∃ b0 w',w0=b0 :: w':=by
   cases w0 with
   | nil=>exact absurd rfl (hx _ (List.mem_cons_self ..)).1
   | cons b0 w'=>exact ⟨b0,w',rfl⟩
  rcases hv with ⟨_,hv⟩ | ⟨_,b,o,c,s,row,rfl,g2,g3,g4,g5⟩
  ·cases hv
  have hv:WS G (.slice b o ((b0 :: w') :: l).length c s) ((b0 :: w') :: l):=Or.inr ⟨by simp,b,o,c,s,row,rfl,g2,g3,g4,g5⟩
  have e4:∀ {id:Nat} {f:V→R},nth id row o f=f (tv (b0 :: w')):=fun {id f}=>nth_get (by simpa using g5 0 _ rfl)
  have l1:l.length+1<9223372036854775808:=by simp only [List.length_cons] at hl;omega
  have l2:¬ l.length+1=0:=by omega
  have l3:0<l.length+1:=by omega
  have l4:0<w'.length+1:=by omega
  have hE:enc (b0 :: w') >>> 0 &&& 255=b0.toNat:=by
   have:=enc_at (b0 :: w') 0 (by simp)
   simpa using this
  by_cases hb:b0.toNat=35
  ·have hb':b0=35:=UInt8.toNat_inj.1 hb
   rw [if_pos (Or.inr (show (((b0 :: w') :: l).headD []).headD 0=35 from hb'))] at hok
   subst hok
   have hb2:(b0.toNat=35)=True:=eq_true hb
   refine ⟨G,h,fun d kn kx e x E hn hx => ?_⟩
   have q11:=E.a11
   simp only [List.length_cons] at gW
   simp only [go_sem,↓op_app,reduceCtorEq,Nat.reduceAdd,Nat.reduceSub,Nat.reduceMul,Nat.reduceEqDiff,Nat.reduceLT,Nat.reduceDiv,Nat.reduceMod,Nat.reduceLeDiff,↓reduceIte,c11q3,q11,gW,l1,l2,l3,g3,e4,isOne_tv,vStr_tv,l4,hE,hb2]
   exact hx _
  ·have hb':¬ ((((b0 :: w') :: l)=[])∨((((b0 :: w') :: l).headD []).headD 0)=35):=by
    intro h
    rcases h with h | h
    ·cases h
    ·have h':b0=35:=h
     exact hb (by rw [h'];rfl)
   rw [if_neg hb'] at hok
   obtain ⟨o1,o2,rfl⟩:=hok
   have hb2:(b0.toNat=35)=False:=eq_false hb
   obtain ⟨G',h',z'⟩:=parse_q4 (cp:=cp) (fuel:=fuel) T S kk k0 h gW hWn hv (by simp only [List.length_cons] at hl;omega) (fun w hw=>(hx w hw).2) o1 o2
   refine ⟨G',h',fun d kn kx e x E hn hx => ?_⟩
   have q11:=E.a11
   simp only [List.length_cons] at gW
   simp only [go_sem,↓op_app,reduceCtorEq,Nat.reduceAdd,Nat.reduceSub,Nat.reduceMul,Nat.reduceEqDiff,Nat.reduceLT,Nat.reduceDiv,Nat.reduceMod,Nat.reduceLeDiff,↓reduceIte,c11q3,q11,gW,l1,l2,l3,g3,e4,isOne_tv,vStr_tv,l4,hE,hb2]
   refine z' d kn kx _ x ⟨?_, ?_, ?_, ?_, ?_, ?_⟩ hn
   ·simp only [go_sem,↓op_app,reduceCtorEq,Nat.reduceAdd,Nat.reduceSub,Nat.reduceMul,Nat.reduceEqDiff,Nat.reduceLT,Nat.reduceDiv,Nat.reduceMod,Nat.reduceLeDiff,↓reduceIte,E.a2]
   ·simp only [go_sem,↓op_app,reduceCtorEq,Nat.reduceAdd,Nat.reduceSub,Nat.reduceMul,Nat.reduceEqDiff,Nat.reduceLT,Nat.reduceDiv,Nat.reduceMod,Nat.reduceLeDiff,↓reduceIte,E.a3]
   ·simp only [go_sem,↓op_app,reduceCtorEq,Nat.reduceAdd,Nat.reduceSub,Nat.reduceMul,Nat.reduceEqDiff,Nat.reduceLT,Nat.reduceDiv,Nat.reduceMod,Nat.reduceLeDiff,↓reduceIte,E.a4]
   ·simp only [go_sem,↓op_app,reduceCtorEq,Nat.reduceAdd,Nat.reduceSub,Nat.reduceMul,Nat.reduceEqDiff,Nat.reduceLT,Nat.reduceDiv,Nat.reduceMod,Nat.reduceLeDiff,↓reduceIte,E.a6]
   ·simp only [go_sem,↓op_app,reduceCtorEq,Nat.reduceAdd,Nat.reduceSub,Nat.reduceMul,Nat.reduceEqDiff,Nat.reduceLT,Nat.reduceDiv,Nat.reduceMod,Nat.reduceLeDiff,↓reduceIte,E.a7]
   ·simp only [go_sem,↓op_app,reduceCtorEq,Nat.reduceAdd,Nat.reduceSub,Nat.reduceMul,Nat.reduceEqDiff,Nat.reduceLT,Nat.reduceDiv,Nat.reduceMod,Nat.reduceLeDiff,↓reduceIte,E.a11]
end
end Go.Ev
end
section
namespace Go.Ev
section
variable {t:Nat→Option FnE} {cp:RC→CodeE} {fuel:Nat} {dec:List UInt8→Nat × Nat} {num:List UInt8→Nat}
theorem parse_round (T:TCode t) (S:SNat t dec num) (C:CPs cp) (hfu:1000001<fuel) {P:PC} (kk:P.OK) {R0 E0 M m:Nat} (k0:PR0 P R0 E0 M m) (he:PE0 P R0 E0 M P.e0) {j:Nat} {acc acc':List Stp} {bx:Blk} {G:Heap} (h:JG P (lpS P 0 0) j acc bx G) {s:List UInt8} (hs:s.length<999990) (hj:j<1000000000) (hacc:acc.length≤4096)
  (hok:(if fieldsP s=[]∨((fieldsP s).headD []).headD 0=35 then acc'=acc else (stepP num (fieldsP s)).2=0∧acc.length<4096∧acc'=acc ++ [(stepP num (fieldsP s)).1])) :
  ∃ G',JG P (lpS P 0 0) (j+1) acc' bx G' ∧ ∀ (d:Nat) (k:K),callP (evP cp t fuel (d+4)) (.yld P.y) [tv s] G k=k (.bool true) G':=by
 have hw:=h.f.wf
 have hn:=h.n
 have ly:=kk.ly
 have lT:=kk.lT
 have hyG:P.y<G.n:=by omega
 generalize hG1:G.put P.y (lpS P 1 0)=G1
 have h1:JG P (lpS P 1 0) j acc bx G1:=by rw [← hG1];exact h.putY kk
 have hw1:=h1.f.wf
 have g1n:G1.n=G.n:=by rw [← hG1,Heap.n_put]
 generalize hG2:G1.new (.cells [.nils])=G2
 have f2:Fresh G1 G2:=by rw [← hG2];exact Fresh.new hw1
 have g2n:G2.n=G1.n+1:=by rw [← hG2,Heap.n_new]
 have g2W:G2.get G1.n = .cells [.nils]:=by rw [← hG2,Heap.get_new hw1,if_pos rfl]
 generalize he2:pset ⟨.i0, .i1, .i0⟩ (tv s) (pset ⟨.i0, .i2, .i4⟩ (tv s) P.e0)=e2
 generalize he3:pset ⟨.i0, .i1, .i1⟩ (.ptr G1.n 0) e2=e3
 obtain ⟨fl,fx⟩:=fields_len s []
 obtain ⟨G3,v,f3,n3,o3,g3W,hv3,off3,z3⟩:=words_run (cp:=cp) (t:=t) (fuel:=fuel) (e:=e3) T S C.na C.nb hfu hs f2 (Nat.le_refl _) (by omega) g2W (by rw [← he3,← he2];simp only [go_sem,↓op_app,reduceCtorEq,Nat.reduceAdd,Nat.reduceSub,Nat.reduceMul,Nat.reduceEqDiff,Nat.reduceLT,Nat.reduceDiv,Nat.reduceMod,Nat.reduceLeDiff,↓reduceIte]) (by rw [← he3];simp only [go_sem,↓op_app,reduceCtorEq,Nat.reduceAdd,Nat.reduceSub,Nat.reduceMul,Nat.reduceEqDiff,Nat.reduceLT,Nat.reduceDiv,Nat.reduceMod,Nat.reduceLeDiff,↓reduceIte])
 have h3:=h1.fresh kk f3
 have hw3:=f3.wf
 have hT3:P.T<G3.n:=by omega
 have g3T:=h3.at_
 generalize hG4:G3.put P.T (.cells [.int 3 (j+1)])=G4
 have h4:JG P (lpS P 1 0) (j+1) acc bx G4:=by rw [← hG4];exact h3.putT kk
 have g4n:G4.n=G3.n:=by rw [← hG4,Heap.n_put]
 have g4W:G4.get G1.n = .cells [v]:=by rw [← hG4,Heap.get_put hw3 hT3,if_neg (by omega)];exact g3W
 have hv4:WS G4 v (fieldsP s):=by rw [← hG4];exact hv3.put hw3 hT3 (off3 _ (by omega))
 have fl1:(fieldsP s).length<999999:=by show (fieldsGo s []).length<_;omega
 obtain ⟨G5,h5,z5⟩:=parse_q3 (cp:=cp) (fuel:=fuel) (W:=G1.n) T S kk k0 h4 g4W (by omega) hv4 fl1 (fun w hw=>⟨(fx w hw).1,by have:=(fx w hw).2;simp at this;omega⟩) hacc hok
 have e1:(j+1) % 18446744073709551616=j+1:=by omega
 refine ⟨G5.put P.y (lpS P 0 0),h5.putY kk,fun d k => ?_⟩
 rw [callP_yld]
 refine evY_roundC (e1:=pset ⟨.i0, .i2, .i4⟩ (tv s) P.e0) (e2:=e2) (H2:=G) h.lp (fun f=>by simp only [go_sem,reduceCtorEq,↓reduceIte]) (fun kn kx => ?_) h.lp hw hyG (fun kn kx x hx => ?_) h5.lp h5.f.wf (by have:=h5.n;omega)
 ·rw [C.a]
  simp only [go_sem,↓op_app,reduceCtorEq,Nat.reduceAdd,Nat.reduceSub,Nat.reduceMul,Nat.reduceEqDiff,Nat.reduceLT,Nat.reduceDiv,Nat.reduceMod,Nat.reduceLeDiff,↓reduceIte,c11a,he2]
 ·rw [C.b]
  have hG1':G.put P.y (.loop 1 0 P.e0 [⟨.i0, .i2, .i4⟩] r11.1 r11.2)=G1:=hG1
  rw [hG1']
  simp only [go_sem,↓op_app,reduceCtorEq,Nat.reduceAdd,Nat.reduceSub,Nat.reduceMul,Nat.reduceEqDiff,Nat.reduceLT,Nat.reduceDiv,Nat.reduceMod,Nat.reduceLeDiff,↓reduceIte,c11b,hw1,he3,hG2]
  refine z3 d _ _ x ?_
  have q7:pget ⟨.i0, .i0, .i7⟩ e3 = .ptr P.T 0:=by rw [← he3,← he2];simp only [go_sem,↓op_app,reduceCtorEq,Nat.reduceAdd,Nat.reduceSub,Nat.reduceMul,Nat.reduceEqDiff,Nat.reduceLT,Nat.reduceDiv,Nat.reduceMod,Nat.reduceLeDiff,↓reduceIte,he.a7]
  simp only [go_sem,↓op_app,reduceCtorEq,Nat.reduceAdd,Nat.reduceSub,Nat.reduceMul,Nat.reduceEqDiff,Nat.reduceLT,Nat.reduceDiv,Nat.reduceMod,Nat.reduceLeDiff,↓reduceIte,c11q2,q7,g3T,e1,hw3,hT3,hG4]
  refine z5 d _ _ _ x ⟨?_, ?_, ?_, ?_, ?_, ?_⟩ (fun e'=>hx e') (fun e' => ?_)
  ·simp only [go_sem,↓op_app,reduceCtorEq,Nat.reduceAdd,Nat.reduceSub,Nat.reduceMul,Nat.reduceEqDiff,Nat.reduceLT,Nat.reduceDiv,Nat.reduceMod,Nat.reduceLeDiff,↓reduceIte,← he3,← he2,he.a2]
  ·simp only [go_sem,↓op_app,reduceCtorEq,Nat.reduceAdd,Nat.reduceSub,Nat.reduceMul,Nat.reduceEqDiff,Nat.reduceLT,Nat.reduceDiv,Nat.reduceMod,Nat.reduceLeDiff,↓reduceIte,← he3,← he2,he.a3]
  ·simp only [go_sem,↓op_app,reduceCtorEq,Nat.reduceAdd,Nat.reduceSub,Nat.reduceMul,Nat.reduceEqDiff,Nat.reduceLT,Nat.reduceDiv,Nat.reduceMod,Nat.reduceLeDiff,↓reduceIte,← he3,← he2,he.a4]
  ·simp only [go_sem,↓op_app,reduceCtorEq,Nat.reduceAdd,Nat.reduceSub,Nat.reduceMul,Nat.reduceEqDiff,Nat.reduceLT,Nat.reduceDiv,Nat.reduceMod,Nat.reduceLeDiff,↓reduceIte,← he3,← he2,he.a6]
  ·simp only [go_sem,↓op_app,reduceCtorEq,Nat.reduceAdd,Nat.reduceSub,Nat.reduceMul,Nat.reduceEqDiff,Nat.reduceLT,Nat.reduceDiv,Nat.reduceMod,Nat.reduceLeDiff,↓reduceIte,← he3,← he2,he.a7]
  ·simp only [go_sem,↓op_app,reduceCtorEq,Nat.reduceAdd,Nat.reduceSub,Nat.reduceMul,Nat.reduceEqDiff,Nat.reduceLT,Nat.reduceDiv,Nat.reduceMod,Nat.reduceLeDiff,↓reduceIte,← he3]
  ·simp only [go_sem,reduceCtorEq,↓reduceIte]
   exact hx e'
end
end Go.Ev
end
section
namespace Go.Ev
theorem parseGo_len (num:List UInt8→Nat):∀ (ls:List (List UInt8)) (a:Nat) (acc out:List Stp),acc.length≤4096→parseGo num ls a acc = .ok out→out.length≤4096
 | [],a,acc,out,h,ho=>by cases ho;exact h
 | l :: ls,a,acc,out,h,ho=>by
  simp only [parseGo] at ho
  cases hl:lineP l with
  | none=>rw [hl] at ho;exact parseGo_len num ls _ _ _ h ho
  | some F=>
   rw [hl] at ho
   simp only [] at ho
   split at ho
   ·cases ho
   ·split at ho
    ·cases ho
    ·exact parseGo_len num ls _ _ _ (by simp;omega) ho
theorem parseGo_next {num:List UInt8→Nat} {ls:List (List UInt8)} {j:Nat} {w:List UInt8} {acc:List Stp} (hw:ls[j]? = some w) (h:parseGo num (ls.take j) 0 [] = .ok acc):parseGo num (ls.take (j+1)) 0 []=parseGo num [w] j acc:=by
 rw [List.take_add_one,hw,Option.toList_some,parseGo_app,h]
 have hj:(ls.take j).length=j:=by
  rw [List.length_take]
  rcases Nat.lt_or_ge j ls.length with h | h
  ·omega
  ·rw [List.getElem?_eq_none h] at hw;cases hw
 simp only [hj,Nat.zero_add]
theorem parseGo_pre {num:List UInt8→Nat} {ls:List (List UInt8)} {out:List Stp} (h:parseGo num ls 0 [] = .ok out) (j:Nat):∃ acc,parseGo num (ls.take j) 0 [] = .ok acc:=by
 rw [← List.take_append_drop j ls,parseGo_app] at h
 cases hp:parseGo num (ls.take j) 0 [] with
 | ok acc=>exact ⟨acc,rfl⟩
 | error e=>rw [hp] at h;cases h
theorem parseGo_one {num:List UInt8→Nat} {w:List UInt8} {j:Nat} {acc acc':List Stp} (h:parseGo num [w] j acc = .ok acc') (hacc:acc.length≤4096) :
  (if fieldsP w=[]∨((fieldsP w).headD []).headD 0=35 then acc'=acc else (stepP num (fieldsP w)).2=0∧acc.length<4096∧acc'=acc ++ [(stepP num (fieldsP w)).1]):=by
 simp only [parseGo,lineP] at h
 split
 ·rename_i hc
  rw [if_pos hc] at h
  cases h
  rfl
 ·rename_i hc
  rw [if_neg hc] at h
  simp only [] at h
  split at h
  ·cases h
  ·rename_i h1
   split at h
   ·cases h
   ·rename_i h2
    cases h
    exact ⟨by omega,by omega,rfl⟩
section
variable {t:Nat→Option FnE} {cp:RC→CodeE} {fuel:Nat} {H:Heap} {dec:List UInt8→Nat × Nat} {num:List UInt8→Nat}
theorem split_call (T:TCode t) {G:Heap} (hw:G.wf) {s:List UInt8} (d:Nat) (k:K):callP (evP cp t fuel (d+2)) (.func 48 []) [tv s, .str 1 10] G k=k (.func 114 [.ptr (G.n+1) 0, .ptr G.n 0, .ptr (G.n+1+1) 0]) (((G.new (.cells [tv s])).new (.cells [.str 1 10])).new (.cells [.int 3 0])):=by
 have z1:∀ {k:K},callP (evP cp t fuel (d+1)) (.func 82 []) [tv s, .str 1 10, .int 3 0] G k=k (.func 114 [.ptr (G.n+1) 0, .ptr G.n 0, .ptr (G.n+1+1) 0]) (((G.new (.cells [tv s])).new (.cells [.str 1 10])).new (.cells [.int 3 0])):=fun {k}=>by
  rw [call_entry T.k41 rfl rfl]
  simp only [go_sem,↓op_app,reduceCtorEq,Nat.reduceAdd,Nat.reduceSub,Nat.reduceMul,Nat.reduceEqDiff,Nat.reduceLT,Nat.reduceDiv,Nat.reduceMod,Nat.reduceLeDiff,↓reduceIte,c41,vCells_tv,isOne_tv,hw]
 rw [call_entry T.k24 rfl rfl]
 simp only [go_sem,↓op_app,reduceCtorEq,Nat.reduceAdd,Nat.reduceSub,Nat.reduceMul,Nat.reduceEqDiff,Nat.reduceLT,Nat.reduceDiv,Nat.reduceMod,Nat.reduceLeDiff,↓reduceIte,c24,z1]
theorem parse_loop (T:TCode t) (S:SNat t dec num) (C:CPs cp) (hfu:1000001<fuel) {P:PC} (kk:P.OK) {R0 E0 M m A Cc:Nat} (k0:PR0 P R0 E0 M m) (he:PE0 P R0 E0 M P.e0) {s:List UInt8} (hs:s.length<999990) {out:List Stp} (ho:parseGo num (linesP s) 0 [] = .ok out)
  (hf:Fresh P.H P.Hb) (hl:P.Hb.get P.y=lpS P 0 0) (hT:P.Hb.get P.T = .cells [.int 3 0]) (hO:P.Hb.get P.O = .cells [.nils]) (hB:P.Hb.get P.B = .cells [tv s])
  (hA:P.Hb.get A = .cells [tv [10]]) (hC:P.Hb.get Cc = .cells [.int 3 0]) (nA:A<P.Hb.n∧A≠P.O∧A≠P.T∧A≠P.B∧A≠P.y) (nC:Cc<P.Hb.n∧Cc≠P.O∧Cc≠P.T∧Cc≠P.B∧Cc≠P.y) :
  ∃ G j bx,JG P (lpS P 0 0) j out bx G ∧ ∀ (d:Nat) (k:K),callP (evP cp t fuel (d+5)) (.func 114 [.ptr A 0, .ptr P.B 0, .ptr Cc 0]) [.yld P.y] P.Hb k=k (.tup []) G:=by
 have lines:=lines_len s
 have L:LI cp t fuel s P.B A Cc P.y 3 (fun j G => ∃ acc bx,parseGo num ((linesP s).take j) 0 [] = .ok acc∧acc.length≤4096∧JG P (lpS P 0 0) j acc bx G) (fun _ _=>False):=by
  refine ⟨fun j G ⟨acc,bx,h1,h2,h3⟩=>⟨(h3.same A nA.1 nA.2.1 nA.2.2.1 nA.2.2.2.1 nA.2.2.2.2).trans hA,(h3.same Cc nC.1 nC.2.1 nC.2.2.1 nC.2.2.2.1 nC.2.2.2.2).trans hC,h3.f.wf,by have:=h3.n;have:=kk.lB;omega⟩,
   fun j G x ⟨acc,bx,h1,h2,h3⟩=>⟨acc,x,h1,h2,h3.putB kk⟩,
   fun j G x ⟨acc,bx,h1,h2,h3⟩=>(h3.putB kk (x:=x)).bB,
   fun j w G hw ⟨acc,bx,h1,h2,h3⟩=>Or.inl ?_⟩
  obtain ⟨acc',h4⟩:=parseGo_pre ho (j+1)
  have h5:=parseGo_next hw h1
  rw [h4] at h5
  have hjl:j < (linesP s).length:=by
   rcases Nat.lt_or_ge j (linesP s).length with h | h
   ·exact h
   ·rw [List.getElem?_eq_none h] at hw;cases hw
  have hwl:=lines.2 w (List.mem_of_getElem? hw)
  obtain ⟨G',g1,g2⟩:=parse_round (cp:=cp) (t:=t) (fuel:=fuel) T S C hfu kk k0 he h3 (s:=w) (by omega) (by omega) h2 (parseGo_one h5.symm h2)
  exact ⟨G',⟨acc',bx,h4,parseGo_len num _ _ _ _ (by simp) h4,g1⟩,g1.bB.trans h3.bB.symm,fun d k=>g2 d k⟩
 have h0:JG P (lpS P 0 0) 0 [] (.cells [tv s]) P.Hb:=⟨hf,Nat.le_refl _,fun _ _ _ _ _ _=>rfl,hl,hT,hB, .nils,hO,Gr.nils,fun i _ b o n c s h=>by cases h⟩
 obtain ⟨G,hG,z⟩:=lines_call (cp:=cp) (fuel:=fuel) T S L hfu (by omega) ⟨[],_,by rw [List.take_zero];rfl,by simp,h0⟩ hB
 rcases hG with ⟨i,hG,_⟩ | ⟨acc,bx,g1,g2,g3⟩
 ·exact hG.elim
 ·rw [List.take_length,ho] at g1
  cases g1
  exact ⟨G,_,bx,g3,fun d k=>z d k⟩
end
end Go.Ev
end
section
namespace Go.Ev
structure PB (H:Heap) (s:List UInt8) (P:PC) (Hc:Heap) (M m:Nat):Prop where
 pH:P.H=H
 ok:P.OK
 k0:PR0 P H.n (H.n+1) M m
 he:PE0 P H.n (H.n+1) M P.e0
 f:Fresh H P.Hb
 lp:P.Hb.get P.y=lpS P 0 0
 T:P.Hb.get P.T = .cells [.int 3 0]
 O:P.Hb.get P.O = .cells [.nils]
 B:P.Hb.get P.B = .cells [tv s]
 A:P.Hb.get (P.B+1) = .cells [.str 1 10]
 C:P.Hb.get (P.B+1+1) = .cells [.int 3 0]
 y:P.y=P.B+4
 n:P.Hb.n=P.B+5
 cw:Hc.wf
 cn:Hc.n=P.B+3
 hb:P.Hb=(Hc.new .mark).new (lpS P 0 0)
 zr0:P.Hb.get H.n = .cells [.nils]
 e0:P.Hb.get (H.n+1) = .cells [.nili]
 lo:H.n+1<P.O∧P.O<P.T∧P.T<P.B
 g23:pgetA (.s ⟨.i0, .i2, .i3⟩) P.e0 = .func 114 [.ptr (P.B+1) 0, .ptr P.B 0, .ptr (P.B+1+1) 0]
section
variable {t:Nat→Option FnE} {cp:RC→CodeE} {fuel:Nat} {H:Heap} {dec:List UInt8→Nat × Nat} {num:List UInt8→Nat}
theorem parse_pre (T:TCode t) (hw:H.wf) (hfu:1000001<fuel) (s:List UInt8):∃ P Hc M m,PB H s P Hc M m ∧ ∀ (d:Nat) (k:K) (x:R),(∀ (kn:KE) (kx:Nat→KE),(∀ e G,kn e G=evC c11q14 fuel (evP cp t fuel (d+5)) e G (retF [.cell1 ⟨.i0, .i0, .i2⟩, .cell1 ⟨.i0, .i0, .i3⟩] k) fun n e H=>if n=0 then retF [.cell1 ⟨.i0, .i0, .i2⟩, .cell1 ⟨.i0, .i0, .i3⟩] k e H else no 6)→(∀ e G,kx 0 e G=retF [.cell1 ⟨.i0, .i0, .i2⟩, .cell1 ⟨.i0, .i0, .i3⟩] k e G) →
   evC (.rangeF (.s ⟨.i0, .i2, .i3⟩) [⟨.i0, .i2, .i4⟩] r11.1 r11.2) fuel (evP cp t fuel (d+5)) P.e0 Hc kn kx=x)→callP (evP cp t fuel (d+6)) (.func 22 []) [tv s] H k=x:=by
 generalize hH1:H.new (.cells [.nils])=H1
 have f1:Fresh H H1:=by rw [← hH1];exact Fresh.new hw
 have n1:H1.n=H.n+1:=by rw [← hH1,Heap.n_new]
 have w1:=f1.wf
 have zr1:H1.get H.n = .cells [.nils]:=by rw [← hH1,Heap.get_new hw,if_pos rfl]
 generalize hH2:H1.new (.cells [.nili])=H2
 have f2:Fresh H1 H2:=by rw [← hH2];exact Fresh.new w1
 have n2:H2.n=H.n+1+1:=by rw [← hH2,Heap.n_new,n1]
 have w2:=f2.wf
 have zr2:H2.get (H.n+1) = .cells [.nili]:=by rw [← hH2,Heap.get_new w1,if_pos n1.symm]
 obtain ⟨H3,m,b,c,z,f3,gm,gb,m1,m2,b1,b2,mb,zk⟩:=kinds_call (cp:=cp) (fuel:=fuel) T w2 (by omega)
 have w3:=f3.wf
 have n3:=f3.n
 have zk':=fun {d:Nat} {k:K}=>zk d k
 have l3:H3.n<H3.n+1:=by omega
 generalize hH4:(H3.new (.cells [.nilm])).put H3.n (.cells [.map m])=H4
 have f34:Fresh H3 (H3.new (.cells [.nilm])):=Fresh.new w3
 have f4:Fresh H3 H4:=by rw [← hH4];exact f34.put (Nat.le_refl _) (by rw [Heap.n_new];omega)
 have n4:H4.n=H3.n+1:=by rw [← hH4,Heap.n_put,Heap.n_new]
 have w4:=f4.wf
 have zr4:H4.get H3.n = .cells [.map m]:=by rw [← hH4,Heap.get_put f34.wf (by rw [Heap.n_new];omega),if_pos rfl]
 generalize hH5:H4.new (.cells [.nils])=H5
 have f5:Fresh H4 H5:=by rw [← hH5];exact Fresh.new w4
 have n5:H5.n=H3.n+1+1:=by rw [← hH5,Heap.n_new,n4]
 have w5:=f5.wf
 have zr5:H5.get (H3.n+1) = .cells [.nils]:=by rw [← hH5,Heap.get_new w4,if_pos n4.symm]
 generalize hH6:(H5.new (.cells [.int 3 0])).put (H3.n+1+1) (.cells [.int 3 0])=H6
 have f56:Fresh H5 (H5.new (.cells [.int 3 0])):=Fresh.new w5
 have f6:Fresh H5 H6:=by rw [← hH6];exact f56.put (by omega) (by rw [Heap.n_new];omega)
 have n6:H6.n=H3.n+1+1+1:=by rw [← hH6,Heap.n_put,Heap.n_new,n5]
 have w6:=f6.wf
 have zr6:H6.get (H3.n+1+1) = .cells [.int 3 0]:=by rw [← hH6,Heap.get_put f56.wf (by rw [Heap.n_new];omega),if_pos rfl]
 generalize hH7:((H6.new (.cells [tv s])).new (.cells [.str 1 10])).new (.cells [.int 3 0])=H7
 have w6a:(H6.new (.cells [tv s])).wf:=(Fresh.new w6).wf
 have w6b:((H6.new (.cells [tv s])).new (.cells [.str 1 10])).wf:=(Fresh.new w6a).wf
 have f7:Fresh H6 H7:=by rw [← hH7];exact ((Fresh.new w6).trans (Fresh.new w6a)).trans (Fresh.new w6b)
 have n7:H7.n=H6.n+3:=by rw [← hH7];simp only [Heap.n_new]
 have w7:=f7.wf
 have r7a:H7.get H6.n = .cells [tv s]:=by
  rw [← hH7,Heap.get_new w6b,if_neg (by simp only [Heap.n_new];omega),Heap.get_new w6a,if_neg (by simp only [Heap.n_new];omega),Heap.get_new w6,if_pos rfl]
 have r7b:H7.get (H6.n+1) = .cells [.str 1 10]:=by
  rw [← hH7,Heap.get_new w6b,if_neg (by simp only [Heap.n_new];omega),Heap.get_new w6a,if_pos (by simp only [Heap.n_new])]
 have r7c:H7.get (H6.n+1+1) = .cells [.int 3 0]:=by
  rw [← hH7,Heap.get_new w6b,if_pos (by simp only [Heap.n_new])]
 have zs:=fun {d:Nat} {k:K}=>split_call (cp:=cp) (fuel:=fuel) T w6 (s:=s) d k
 have l6:H3.n+1+1<H3.n+1+1+1:=by omega
 generalize he0:pset ⟨.i0, .i2, .i3⟩ (.func 114 [.ptr (H6.n+1) 0, .ptr H6.n 0, .ptr (H6.n+1+1) 0]) (pset ⟨.i0, .i2, .i2⟩ (tv s) (pset ⟨.i0, .i0, .i7⟩ (.ptr (H3.n+1+1) 0) (pset ⟨.i0, .i0, .i6⟩ (.ptr (H3.n+1) 0) (pset ⟨.i0, .i0, .i5⟩ (.slice b 0 12 c z) (pset ⟨.i0, .i0, .i4⟩ (.ptr H3.n 0) (pset ⟨.i0, .i2, .i1⟩ (.slice b 0 12 c z) (pset ⟨.i0, .i2, .i0⟩ (.map m) (pset ⟨.i0, .i1, .i6⟩ (.tup [.map m, .slice b 0 12 c z]) (pset ⟨.i0, .i1, .i7⟩ (.tup [.map m, .slice b 0 12 c z]) (pset ⟨.i0, .i0, .i3⟩ (.ptr (H.n+1) 0) (pset ⟨.i0, .i0, .i2⟩ (.ptr H.n 0) (pset ⟨.i0, .i0, .i0⟩ (tv s) env0))))))))))))=e0
 have w8:(H7.new .mark).wf:=(Fresh.new w7).wf
 have f8:Fresh H7 ((H7.new .mark).new (.loop 0 0 e0 [⟨.i0, .i2, .i4⟩] r11.1 r11.2)):=(Fresh.new w7).trans (Fresh.new w8)
 have o8:∀ j,j<H7.n→((H7.new .mark).new (.loop 0 0 e0 [⟨.i0, .i2, .i4⟩] r11.1 r11.2)).get j=H7.get j:=f8.same
 have nb:((H7.new .mark).new (.loop 0 0 e0 [⟨.i0, .i2, .i4⟩] r11.1 r11.2)).n=H6.n+5:=by simp only [Heap.n_new];omega
 have fHb:Fresh H ((H7.new .mark).new (.loop 0 0 e0 [⟨.i0, .i2, .i4⟩] r11.1 r11.2)):=((((((f1.trans f2).trans f3).trans f4).trans f5).trans f6).trans f7).trans f8
 have k6:∀ j,j<H6.n→H7.get j=H6.get j:=f7.same
 have k5:∀ j,j<H5.n→H6.get j=H5.get j:=f6.same
 have k4:∀ j,j<H4.n→H5.get j=H4.get j:=f5.same
 have k3:∀ j,j<H3.n→H4.get j=H3.get j:=f4.same
 have k2:∀ j,j<H2.n→H3.get j=H2.get j:=f3.same
 have k1:∀ j,j<H1.n→H2.get j=H1.get j:=f2.same
 have all3:∀ j,j<H3.n→((H7.new .mark).new (.loop 0 0 e0 [⟨.i0, .i2, .i4⟩] r11.1 r11.2)).get j=H3.get j:=fun j hj=>by
  rw [o8 j (by omega),k6 j (by omega),k5 j (by omega),k4 j (by omega),k3 j hj]
 refine ⟨⟨H,(H7.new .mark).new (.loop 0 0 e0 [⟨.i0, .i2, .i4⟩] r11.1 r11.2),e0,H3.n+1,H3.n+1+1,H6.n,H6.n+4⟩,H7,H3.n,m, ?_,fun d k x hx => ?_⟩
 ·have q:∀ {a b:Nat},a<b→a<b:=fun h=>h
  refine ⟨rfl,⟨by show H.n≤H3.n+1;omega,by show H.n≤H3.n+1+1;omega,by show H.n≤H6.n;omega,by show H.n≤H6.n+4;omega, ?_, ?_, ?_, ?_,by show H3.n+1≠H3.n+1+1;omega,by show H3.n+1≠H6.n;omega,by show H3.n+1≠H6.n+4;omega,by show H3.n+1+1≠H6.n;omega,by show H3.n+1+1≠H6.n+4;omega,by show H6.n≠H6.n+4;omega⟩,
   ⟨?_, ?_,by show H3.n≠H3.n+1;omega,by show H3.n≠H3.n+1+1;omega,by show H3.n≠H6.n;omega,by show H3.n≠H6.n+4;omega, ?_, ?_,by show m≠H3.n+1;omega,by show m≠H3.n+1+1;omega,by show m≠H6.n;omega,by show m≠H6.n+4;omega⟩,⟨?_, ?_, ?_, ?_, ?_⟩,fHb, ?_, ?_, ?_, ?_, ?_, ?_,rfl,nb,w7, ?_,rfl, ?_, ?_,⟨?_, ?_, ?_⟩, ?_⟩
  ·show H3.n+1 < ((H7.new .mark).new (.loop 0 0 e0 [⟨.i0, .i2, .i4⟩] r11.1 r11.2)).n;omega
  ·show H3.n+1+1 < ((H7.new .mark).new (.loop 0 0 e0 [⟨.i0, .i2, .i4⟩] r11.1 r11.2)).n;omega
  ·show H6.n < ((H7.new .mark).new (.loop 0 0 e0 [⟨.i0, .i2, .i4⟩] r11.1 r11.2)).n;omega
  ·show H6.n+4 < ((H7.new .mark).new (.loop 0 0 e0 [⟨.i0, .i2, .i4⟩] r11.1 r11.2)).n;omega
  ·show ((H7.new .mark).new (.loop 0 0 e0 [⟨.i0, .i2, .i4⟩] r11.1 r11.2)).get H3.n=_
   rw [o8 _ (by omega),k6 _ (by omega),k5 _ (by omega),k4 _ (by omega)];exact zr4
  ·show H3.n < ((H7.new .mark).new (.loop 0 0 e0 [⟨.i0, .i2, .i4⟩] r11.1 r11.2)).n;omega
  ·show ((H7.new .mark).new (.loop 0 0 e0 [⟨.i0, .i2, .i4⟩] r11.1 r11.2)).get m=_
   rw [all3 _ m2];exact gm
  ·show m < ((H7.new .mark).new (.loop 0 0 e0 [⟨.i0, .i2, .i4⟩] r11.1 r11.2)).n;omega
  ·rw [← he0];simp only [go_sem,↓op_app,reduceCtorEq,Nat.reduceAdd,Nat.reduceSub,Nat.reduceMul,Nat.reduceEqDiff,Nat.reduceLT,Nat.reduceDiv,Nat.reduceMod,Nat.reduceLeDiff,↓reduceIte]
  ·rw [← he0];simp only [go_sem,↓op_app,reduceCtorEq,Nat.reduceAdd,Nat.reduceSub,Nat.reduceMul,Nat.reduceEqDiff,Nat.reduceLT,Nat.reduceDiv,Nat.reduceMod,Nat.reduceLeDiff,↓reduceIte]
  ·rw [← he0];simp only [go_sem,↓op_app,reduceCtorEq,Nat.reduceAdd,Nat.reduceSub,Nat.reduceMul,Nat.reduceEqDiff,Nat.reduceLT,Nat.reduceDiv,Nat.reduceMod,Nat.reduceLeDiff,↓reduceIte]
  ·rw [← he0];simp only [go_sem,↓op_app,reduceCtorEq,Nat.reduceAdd,Nat.reduceSub,Nat.reduceMul,Nat.reduceEqDiff,Nat.reduceLT,Nat.reduceDiv,Nat.reduceMod,Nat.reduceLeDiff,↓reduceIte]
  ·rw [← he0];simp only [go_sem,↓op_app,reduceCtorEq,Nat.reduceAdd,Nat.reduceSub,Nat.reduceMul,Nat.reduceEqDiff,Nat.reduceLT,Nat.reduceDiv,Nat.reduceMod,Nat.reduceLeDiff,↓reduceIte]
  ·show ((H7.new .mark).new (.loop 0 0 e0 [⟨.i0, .i2, .i4⟩] r11.1 r11.2)).get (H6.n+4)=_
   rw [Heap.get_new w8,if_pos (by rw [Heap.n_new];omega)]
  ·show ((H7.new .mark).new (.loop 0 0 e0 [⟨.i0, .i2, .i4⟩] r11.1 r11.2)).get (H3.n+1+1)=_
   rw [o8 _ (by omega),k6 _ (by omega)];exact zr6
  ·show ((H7.new .mark).new (.loop 0 0 e0 [⟨.i0, .i2, .i4⟩] r11.1 r11.2)).get (H3.n+1)=_
   rw [o8 _ (by omega),k6 _ (by omega),k5 _ (by omega)];exact zr5
  ·show ((H7.new .mark).new (.loop 0 0 e0 [⟨.i0, .i2, .i4⟩] r11.1 r11.2)).get H6.n=_
   rw [o8 _ (by omega)];exact r7a
  ·show ((H7.new .mark).new (.loop 0 0 e0 [⟨.i0, .i2, .i4⟩] r11.1 r11.2)).get (H6.n+1)=_
   rw [o8 _ (by omega)];exact r7b
  ·show ((H7.new .mark).new (.loop 0 0 e0 [⟨.i0, .i2, .i4⟩] r11.1 r11.2)).get (H6.n+1+1)=_
   rw [o8 _ (by omega)];exact r7c
  ·exact n7
  ·show ((H7.new .mark).new (.loop 0 0 e0 [⟨.i0, .i2, .i4⟩] r11.1 r11.2)).get H.n=_
   rw [all3 _ (by omega),k2 _ (by omega),k1 _ (by omega)];exact zr1
  ·show ((H7.new .mark).new (.loop 0 0 e0 [⟨.i0, .i2, .i4⟩] r11.1 r11.2)).get (H.n+1)=_
   rw [all3 _ (by omega),k2 _ (by omega)];exact zr2
  ·show H.n+1<H3.n+1;omega
  ·show H3.n+1<H3.n+1+1;omega
  ·show H3.n+1+1<H6.n;omega
  ·rw [← he0];simp only [go_sem,↓op_app,reduceCtorEq,Nat.reduceAdd,Nat.reduceSub,Nat.reduceMul,Nat.reduceEqDiff,Nat.reduceLT,Nat.reduceDiv,Nat.reduceMod,Nat.reduceLeDiff,↓reduceIte]
 ·rw [call_entry T.k11 rfl rfl]
  simp only [go_sem,↓op_app,reduceCtorEq,Nat.reduceAdd,Nat.reduceSub,Nat.reduceMul,Nat.reduceEqDiff,Nat.reduceLT,Nat.reduceDiv,Nat.reduceMod,Nat.reduceLeDiff,↓reduceIte,c11,hw,hH1,n1,w1,hH2]
  simp only [go_sem,↓op_app,reduceCtorEq,Nat.reduceAdd,Nat.reduceSub,Nat.reduceMul,Nat.reduceEqDiff,Nat.reduceLT,Nat.reduceDiv,Nat.reduceMod,Nat.reduceLeDiff,↓reduceIte,c11q10,zk',l3,w3,hH4]
  simp only [go_sem,↓op_app,reduceCtorEq,Nat.reduceAdd,Nat.reduceSub,Nat.reduceMul,Nat.reduceEqDiff,Nat.reduceLT,Nat.reduceDiv,Nat.reduceMod,Nat.reduceLeDiff,↓reduceIte,c11q11,c11q12,w4,n4,hH5,w5,n5,l6,hH6]
  simp only [go_sem,↓op_app,reduceCtorEq,Nat.reduceAdd,Nat.reduceSub,Nat.reduceMul,Nat.reduceEqDiff,Nat.reduceLT,Nat.reduceDiv,Nat.reduceMod,Nat.reduceLeDiff,↓reduceIte,c11q13,zs,hH7,he0]
  exact hx _ _ (fun e G=>rfl) (fun e G=>rfl)
end
end Go.Ev
end
section
namespace Go.Ev
theorem isOne_nili {id:Nat} {k:R}:isOne id .nili k=k:=Eq.trans rfl rfl
theorem isOne_iface {id t:Nat} {v:V} {k:R}:isOne id (.iface t v) k=k:=Eq.trans rfl rfl
section
variable {t:Nat→Option FnE} {cp:RC→CodeE} {fuel:Nat} {H:Heap} {dec:List UInt8→Nat × Nat} {num:List UInt8→Nat}
theorem parse_ok (T:TCode t) (S:SNat t dec num) (C:CPs cp) (hw:H.wf) (hfu:1000001<fuel) {s:List UInt8} (hs:s.length<999990) {out:List Stp} (ho:parseGo num (linesP s) 0 [] = .ok out) :
  ∃ G v,Fresh H G∧Gr H G v 4 out.length (Stps out) ∧ ∀ (d:Nat) (k:K),callP (evP cp t fuel (d+6)) (.func 22 []) [tv s] H k=k (.tup [v, .nili]) G:=by
 obtain ⟨P,Hc,M,m,B,z⟩:=parse_pre (cp:=cp) (t:=t) (fuel:=fuel) T hw hfu s
 have kk:=B.ok
 have hy:=B.y
 have hn:=B.n
 have lo:=B.lo
 obtain ⟨G,j,bx,h,zl⟩:=parse_loop (cp:=cp) (t:=t) (fuel:=fuel) (A:=P.B+1) (Cc:=P.B+1+1) T S C hfu kk B.k0 B.he hs ho (by rw [B.pH];exact B.f) B.lp B.T B.O B.B B.A B.C (by omega) (by omega)
 obtain ⟨v,gO,gv,off⟩:=h.out
 have hf:=h.f
 rw [B.pH] at hf gv
 have hw1:=hf.wf
 have hG:=h.n
 have ly:P.y<G.n:=by omega
 have k1:Fresh H (G.put P.y (lpS P 3 0)):=hf.put (by omega) ly
 have v1:=gv.put (x:=lpS P 3 0) hw1 ly (off _ (by omega))
 generalize hG1:G.put P.y (lpS P 3 0)=G1 at k1 v1
 have g1n:G1.n=G.n:=by rw [← hG1,Heap.n_put]
 have o1:∀ i,i≠P.y→G1.get i=G.get i:=fun i hi=>by rw [← hG1,Heap.get_put hw1 ly,if_neg hi]
 have hw2:=k1.wf
 have zr0:G1.get H.n = .cells [.nils]:=by rw [o1 _ (by omega),h.same _ (by omega) (by omega) (by omega) (by omega) (by omega)];exact B.zr0
 have e0:G1.get (H.n+1) = .cells [.nili]:=by rw [o1 _ (by omega),h.same _ (by omega) (by omega) (by omega) (by omega) (by omega)];exact B.e0
 have gO1:G1.get P.O = .cells [v]:=by rw [o1 _ (by omega)];exact gO
 have l1:H.n<G1.n:=by omega
 have l2:H.n+1<G1.n:=by omega
 have v2:=v1.put (x := .cells [v]) hw2 l1 (off _ (by omega))
 have k2:Fresh H (G1.put H.n (.cells [v])):=k1.put (Nat.le_refl _) l1
 have v3:=v2.put (x := .cells [.nili]) k2.wf (by rw [Heap.n_put];exact l2) (off _ (by omega))
 refine ⟨(G1.put H.n (.cells [v])).put (H.n+1) (.cells [.nili]),v,k2.put (by omega) (by rw [Heap.n_put];exact l2),v3,fun d k => ?_⟩
 refine z d k _ fun kn kx hkn hkx => ?_
 have hz:∀ k:K,callP (evP cp t fuel (d+5)) (.func 114 [.ptr (P.B+1) 0, .ptr P.B 0, .ptr (P.B+1+1) 0]) [.yld (Hc.n+1)] ((Hc.new .mark).new (.loop 0 0 P.e0 [⟨.i0, .i2, .i4⟩] r11.1 r11.2)) k=k (.tup []) G:=fun k=>by
  have h1:=zl d k
  rw [B.hb,show P.y=Hc.n+1 by rw [B.cn];exact hy] at h1
  exact h1
 rw [evC_rangeF B.cw B.g23 rfl hz (by rw [show Hc.n+1=P.y by rw [B.cn];exact hy.symm];exact h.lp) hw1 (by rw [show Hc.n+1=P.y by rw [B.cn];exact hy.symm];exact ly),hkn]
 rw [show Hc.n+1=P.y by rw [B.cn];exact hy.symm]
 have hG1':G.put P.y (.loop 3 0 P.e0 [⟨.i0, .i2, .i4⟩] r11.1 r11.2)=G1:=hG1
 rw [hG1']
 have q2:=B.he.a2
 have q3:=B.he.a3
 have q6:=B.he.a6
 have zc1:¬ H.n+1=H.n:=by omega
 have zc2:¬ H.n=H.n+1:=by omega
 have i1:∀ {id:Nat} {k:R},isOne id v k=k:=fun {id k}=>gv.is1
 simp only [go_sem,↓op_app,reduceCtorEq,Nat.reduceAdd,Nat.reduceSub,Nat.reduceMul,Nat.reduceEqDiff,Nat.reduceLT,Nat.reduceDiv,Nat.reduceMod,Nat.reduceLeDiff,↓reduceIte,c11q14,c11q15,q2,q3,q6,gO1,zr0,e0,i1,hw2,l1,l2,retF_11,isOne_nili,zc1,zc2]
end
end Go.Ev
end
