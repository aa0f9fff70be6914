/- LF: a part of the evaluator,of its logic,or of the laws' walk in it. -/
import Derived.Test.YtdimchccafgdoaaDoorLC
import Derived.Test.YtdimchccafgdoaaDoorLB
set_option linter.unusedVariables false
set_option linter.unusedSimpArgs false
set_option linter.unusedSectionVars false
section
namespace Go.Ev
section
variable {id:Nat} {ph:Phi} {e:Env} {H:Heap} {k:K}
theorem eqCs_nil {f:Bool→R}:eqCs id [] [] [] f=f true:=Eq.trans rfl rfl
theorem eqCs_int {q a b:Nat} {cls:List Nat} {l m:List V} {f:Bool→R}:eqCs id (1 :: cls) (.int q a :: l) (.int q b :: m) f=if a=b then eqCs id cls l m f else f false:=by
 show ifB (Nat.beq q q) (ifB (Nat.beq a b) (eqCs id cls l m f) (f false)) (no 0)=_
 simp only [ifB_if,nbeq,if_true]
theorem eqCs_str {a b:List UInt8} {cls:List Nat} {l m:List V} {f:Bool→R}:eqCs id (2 :: cls) (tv a :: l) (tv b :: m) f=if a=b then eqCs id cls l m f else f false:=by
 show ifB (Nat.beq a.length b.length) (ifB (Nat.beq (enc a) (enc b)) (eqCs id cls l m f) (f false)) (f false)=_
 simp only [ifB_if,nbeq]
 by_cases h:a=b
 ·subst h
  simp only [if_true]
 ·rw [if_neg h]
  split
  ·rename_i h1
   split
   ·rename_i h2
    exact absurd (tv_inj (by simp only [tv,h1,h2])) h
   ·rfl
  ·rfl
theorem eqCs_stp {s s':Stp} {f:Bool→R}:eqCs id [1,1,1,2] s.cells s'.cells f=f (decide (s=s')):=by
 obtain ⟨k,a,b,d⟩:=s
 obtain ⟨k',a',b',d'⟩:=s'
 simp only [Stp.cells,eqCs_int,eqCs_str,eqCs_nil]
 by_cases h1:k=k'
 ·by_cases h2:a=a'
  ·by_cases h3:b=b'
   ·by_cases h4:d=d'
    ·simp [h1,h2,h3,h4]
    ·simp [h1,h2,h3,h4]
   ·simp [h1,h2,h3]
  ·simp [h1,h2]
 ·simp [h1]
theorem op_aggEqS {neg:Bool} {x y:Arg} {s s':Stp} (h1:pgetA x e = .agg s.cells) (h2:pgetA y e = .agg s'.cells):evOp (.aggEq [1,1,1,2] neg x y) id ph e H k=k (.bool (if s=s' then !neg else neg)) H:=by
 show getA x e (fun x=>vAgg id x fun l=>getA y e fun y=>vAgg id y fun m=>ifB (Nat.beq (lenL l) (lenNs [1,1,1,2])) (ifB (Nat.beq (lenL m) (lenNs [1,1,1,2])) (eqCs id [1,1,1,2] l m fun b=>ifB b (ifB neg (k (.bool false) H) (k (.bool true) H)) (k (.bool neg) H)) (no 0)) (no 0))=_
 rw [getA_eq,h1]
 show getA y e (fun y=>vAgg id y fun m=>ifB (Nat.beq (lenL s.cells) (lenNs [1,1,1,2])) (ifB (Nat.beq (lenL m) (lenNs [1,1,1,2])) (eqCs id [1,1,1,2] s.cells m fun b=>ifB b (ifB neg (k (.bool false) H) (k (.bool true) H)) (k (.bool neg) H)) (no 0)) (no 0))=_
 rw [getA_eq,h2]
 show eqCs id [1,1,1,2] s.cells s'.cells (fun b=>ifB b (ifB neg (k (.bool false) H) (k (.bool true) H)) (k (.bool neg) H))=_
 rw [eqCs_stp]
 by_cases h:s=s'
 ·rw [decide_eq_true h,if_pos h]
  cases neg <;> rfl
 ·rw [decide_eq_false h,if_neg h]
  rfl
end
theorem StAt.four {H:Heap} {v:V} {l:List Stp} (h:StAt H v l) {i:Nat} {s:Stp} (hi:l[i]? = some s):∃ b o c z,v = .slice b o l.length c z ∧ ∀ {id:Nat} {f:List V→R},rdNB id (H.get b) (o+i * 4) 4 f=f s.cells:=by
 have hl:i<l.length:=by
  rcases Nat.lt_or_ge i l.length with h | h
  ·exact h
  ·rw [List.getElem?_eq_none h] at hi;cases hi
 rcases h with ⟨_,rfl⟩ | ⟨b,o,c,z,row,rfl,h2,h3,h4,h5⟩
 ·simp at hl
 ·refine ⟨b,o,c,z,rfl,fun {id f} => ?_⟩
  rw [← rdN_on]
  refine rdN_row (l:=s.cells) h2 (by omega) ?_ ?_
  ·have hsplit:l=l.take i ++ (s :: l.drop (i+1)):=by
    obtain ⟨h8,h9⟩:=List.getElem?_eq_some_iff.1 hi
    have:=List.drop_eq_getElem_cons h8
    rw [h9] at this
    rw [← this,List.take_append_drop]
   have hS:Stps l=Stps (l.take i) ++ (s.cells ++ Stps (l.drop (i+1))):=by
    conv=>lhs;rw [hsplit]
    simp only [Stps,List.flatMap_append,List.flatMap_cons]
   have h6:(Stps (l.take i)).length=i * 4:=by rw [Stps_len,List.length_take,Nat.min_eq_left (by omega)]
   have h7:((row.drop o).take (l.length * 4)).drop (i * 4)=s.cells ++ Stps (l.drop (i+1)):=by rw [h5,hS,← h6,List.drop_left]
   have h8:(((row.drop o).take (l.length * 4)).drop (i * 4)).take 4=s.cells:=by rw [h7];rfl
   rw [List.drop_take,List.take_take,List.drop_drop] at h8
   rw [← h8,Nat.min_eq_left (by omega)]
  ·intro v hv
   simp only [Stp.cells,List.mem_cons,List.not_mem_nil,or_false] at hv
   rcases hv with rfl | rfl | rfl | rfl <;> rfl
section
variable {t:Nat→Option FnE} {cp:RC→CodeE} {fuel:Nat} {H:Heap}
theorem alike_loop (T:TCode t) {v w:V} {es fs:List Stp} (hl:StAt H v es) (hq:StAt H w fs) (hw:H.wf) (hlen:fs.length=es.length) (hn:es.length<1000000) :
  ∀ (m i:Nat),i+m=es.length→es.take i=fs.take i → ∀ (ph:Phi) (kx:Nat→KE) (r:Nat) (e:Env),m<r→pget ⟨.i0, .i0, .i0⟩ e=v→pget ⟨.i0, .i0, .i1⟩ e=w→pget ⟨.i0, .i0, .i5⟩ e = .int 3 i →
   ∀ x:R,(es=fs → ∀ e',kx 1 e' H=x)→(es≠fs → ∀ e',pget ⟨.i0, .i0, .i4⟩ e' = .bool false→kx 0 e' H=x) →
   evL c7l0 fuel ph kx r e H=x:=by
 have hs:=fun {id:Nat} {f:Nat→R}=>hl.sn (id:=id) (f:=f)
 intro m
 induction m with
 | zero=>
  intro i hi ht ph kx r e hr h0 h1 h5 x hY hN
  obtain ⟨r,rfl⟩:∃ q,r=q+1:=⟨r-1,by omega⟩
  obtain rfl:i=es.length:=by omega
  have e1:¬ es.length<es.length:=by omega
  have e2:nn es.length:=by unfold nn;omega
  have e8:es.length<9223372036854775808:=by omega
  rw [evL_succ]
  simp only [go_sem,↓op_app,reduceCtorEq,Nat.reduceAdd,Nat.reduceSub,Nat.reduceMul,Nat.reduceEqDiff,Nat.reduceLT,Nat.reduceDiv,Nat.reduceMod,Nat.reduceLeDiff,↓reduceIte,c7l0,h0,h1,h5,↓hs,e1,e2,e8]
  refine hY ?_ _
  rwa [List.take_of_length_le (by omega),List.take_of_length_le (by omega)] at ht
 | succ m ih=>
  intro i hi ht ph kx r e hr h0 h1 h5 x hY hN
  obtain ⟨r,rfl⟩:∃ q,r=q+1:=⟨r-1,by omega⟩
  have hlt:i<es.length:=by omega
  have g1:es[i]? = some es[i]:=List.getElem?_eq_getElem hlt
  have g2:fs[i]? = some fs[i]:=List.getElem?_eq_getElem (by omega)
  obtain ⟨b,o,c,s,hv,zr1⟩:=hl.four g1
  obtain ⟨b',o',c',s',hv',zr2⟩:=hq.four g2
  rw [hlen] at hv'
  have e1:nn i:=by unfold nn;omega
  have e2:nn es.length:=by unfold nn;omega
  have e3:i<9223372036854775808:=by omega
  have e8:es.length<9223372036854775808:=by omega
  have e9:(i+1) % 18446744073709551616=i+1:=by omega
  have hst:es[i]=fs[i]→es.take (i+1)=fs.take (i+1):=fun he=>by
   rw [List.take_succ_eq_append_getElem hlt,List.take_succ_eq_append_getElem (by omega),ht,he]
  have hne:es[i]≠fs[i]→es≠fs:=fun he h=>he (by subst h;rfl)
  generalize es[i]=ea at zr1 hst hne
  generalize fs[i]=eb at zr2 hst hne
  subst hv
  rw [hv'] at h1
  have z:∀ {id:Nat} {ph:Phi} {e':Env} {H:Heap} {k:K},pgetA (.s ⟨.i0, .i2, .i4⟩) e' = .agg ea.cells→pgetA (.s ⟨.i0, .i3, .i0⟩) e' = .agg eb.cells→evOp (.aggEq [1,1,1,2] true (.s ⟨.i0, .i2, .i4⟩) (.s ⟨.i0, .i3, .i0⟩)) id ph e' H k=k (.bool (if ea=eb then !true else true)) H:=fun {id ph e' H k} p q=>op_aggEqS p q
  rw [evL_succ]
  by_cases q1:ea=eb
  ·rw [if_pos q1] at z
   simp only [go_sem,↓op_app,reduceCtorEq,Nat.reduceAdd,Nat.reduceSub,Nat.reduceMul,Nat.reduceEqDiff,Nat.reduceLT,Nat.reduceDiv,Nat.reduceMod,Nat.reduceLeDiff,↓reduceIte,c7l0,h0,h1,h5,hlt,e1,e2,e3,e8,e9,zr1,zr2,hw,↓z]
   refine ih (i+1) (by omega) (hst q1) ph kx r _ (by omega) ?_ ?_ ?_ x hY hN
   ·simp only [go_sem,reduceCtorEq,↓reduceIte,h0]
   ·simp only [go_sem,↓op_app,reduceCtorEq,Nat.reduceAdd,Nat.reduceSub,Nat.reduceMul,Nat.reduceEqDiff,Nat.reduceLT,Nat.reduceDiv,Nat.reduceMod,Nat.reduceLeDiff,↓reduceIte,h1,hv']
   ·simp only [go_sem,reduceCtorEq,↓reduceIte]
  ·rw [if_neg q1] at z
   simp only [go_sem,↓op_app,reduceCtorEq,Nat.reduceAdd,Nat.reduceSub,Nat.reduceMul,Nat.reduceEqDiff,Nat.reduceLT,Nat.reduceDiv,Nat.reduceMod,Nat.reduceLeDiff,↓reduceIte,c7l0,h0,h1,h5,hlt,e1,e2,e3,e8,e9,zr1,zr2,hw,↓z]
   exact hN (hne q1) _ (by simp only [go_sem,reduceCtorEq,↓reduceIte])
theorem alike_call (T:TCode t) {v w:V} {es fs:List Stp} (hw:H.wf) (hl:StAt H v es) (hq:StAt H w fs) (hn:es.length<1000000) (hm:fs.length<1000000) (hfu:1000001<fuel) (d:Nat) (k:K) :
  callP (evP cp t fuel (d+1)) (.func 14 []) [v,w] H k=k (.bool (decide (es=fs))) H:=by
 have hs:=fun {id:Nat} {f:Nat→R}=>hl.sn (id:=id) (f:=f)
 have hs2:=fun {id:Nat} {f:Nat→R}=>hq.sn (id:=id) (f:=f)
 have e8:es.length<9223372036854775808:=by omega
 have e9:fs.length<9223372036854775808:=by omega
 rw [call_entry T.k7 rfl rfl]
 by_cases hlen:es.length=fs.length
 ·rw [← hlen] at hs2 e9
  simp only [go_sem,↓op_app,reduceCtorEq,Nat.reduceAdd,Nat.reduceSub,Nat.reduceMul,Nat.reduceEqDiff,Nat.reduceLT,Nat.reduceDiv,Nat.reduceMod,Nat.reduceLeDiff,↓reduceIte,c7,↓hs,↓hs2,e8,e9]
  refine alike_loop (H:=H) T hl hq hw hlen.symm hn es.length 0 (by omega) rfl _ _ fuel _ (by omega) ?_ ?_ ?_ _ (fun he e' => ?_) (fun he e' h4 => ?_)
  ·simp only [go_sem,reduceCtorEq,↓reduceIte]
  ·simp only [go_sem,reduceCtorEq,↓reduceIte]
  ·simp only [go_sem,reduceCtorEq,↓reduceIte]
  ·simp only [go_sem,↓op_app,reduceCtorEq,Nat.reduceAdd,Nat.reduceSub,Nat.reduceMul,Nat.reduceEqDiff,Nat.reduceLT,Nat.reduceDiv,Nat.reduceMod,Nat.reduceLeDiff,↓reduceIte,decide_eq_true he]
  ·simp only [go_sem,↓op_app,reduceCtorEq,Nat.reduceAdd,Nat.reduceSub,Nat.reduceMul,Nat.reduceEqDiff,Nat.reduceLT,Nat.reduceDiv,Nat.reduceMod,Nat.reduceLeDiff,↓reduceIte,h4,decide_eq_false he]
 ·have hne:es≠fs:=fun h=>hlen (by rw [h])
  simp only [go_sem,↓op_app,reduceCtorEq,Nat.reduceAdd,Nat.reduceSub,Nat.reduceMul,Nat.reduceEqDiff,Nat.reduceLT,Nat.reduceDiv,Nat.reduceMod,Nat.reduceLeDiff,↓reduceIte,c7,↓hs,↓hs2,e8,e9,hlen,decide_eq_false hne]
end
end Go.Ev
end
section
namespace Go.Ev
def bodyOf (s:Stp):List UInt8:=match kindsT[s.k]? with
 | none => []
 | some r=>r.w ++ (32 :: decD s.a) ++ (if r.b=neg1 then [] else 32 :: decD s.b) ++ (if r.d=true then 32 :: s.d else [])
def wordsOf (r:KRow) (s:Stp):List (List UInt8):=[r.w,decD s.a] ++ (if r.b=neg1 then [] else [decD s.b]) ++ (if r.d=true then [s.d] else [])
def plainB (b:UInt8):Bool := !blankB b && decide (b≠10)
theorem digit_plain:∀ n,n<10→plainB (UInt8.ofNat (48+n))=true:=by decide
theorem decD_plain {n:Nat} (h:n<10000):(∀ b ∈ decD n,plainB b=true)∧decD n≠[]:=by
 unfold decD
 have h1:=digit_plain (n % 10) (by omega)
 have h2:=digit_plain (n / 10 % 10) (by omega)
 have h3:=digit_plain (n / 100 % 10) (by omega)
 split
 ·refine ⟨fun b hb => ?_,by simp⟩
  rw [List.mem_singleton] at hb;subst hb
  exact digit_plain n (by omega)
 ·split
  ·refine ⟨fun b hb => ?_,by simp⟩
   simp only [List.mem_cons,List.not_mem_nil,or_false] at hb
   rcases hb with rfl | rfl
   ·exact digit_plain (n / 10) (by omega)
   ·exact h1
  ·split
   ·refine ⟨fun b hb => ?_,by simp⟩
    simp only [List.mem_cons,List.not_mem_nil,or_false] at hb
    rcases hb with rfl | rfl | rfl
    ·exact digit_plain (n / 100) (by omega)
    ·exact h2
    ·exact h1
   ·refine ⟨fun b hb => ?_,by simp⟩
    simp only [List.mem_cons,List.not_mem_nil,or_false] at hb
    rcases hb with rfl | rfl | rfl | rfl
    ·exact digit_plain (n / 1000) (by omega)
    ·exact h3
    ·exact h2
    ·exact h1
theorem fieldsGo_word:∀ (w rest cur:List UInt8),(∀ b ∈ w,plainB b=true)→cur ++ w≠[]→fieldsGo (w ++ 32 :: rest) cur=(cur ++ w) :: fieldsGo rest []
 | [],rest,cur,_,hn=>by
  rw [List.append_nil] at hn
  rw [List.nil_append,fieldsGo,if_pos (by decide),if_neg hn,List.append_nil]
 | b :: w,rest,cur,hp,hn=>by
  have hb:=hp b (List.mem_cons_self ..)
  have hb':blankB b=false:=by simp [plainB] at hb;exact hb.1
  rw [List.cons_append,fieldsGo,hb',if_neg (by simp),fieldsGo_word w rest (cur ++ [b]) (fun x hx=>hp x (List.mem_cons_of_mem _ hx)) (by simp),List.append_assoc]
  rfl
theorem fieldsGo_last:∀ (w cur:List UInt8),(∀ b ∈ w,plainB b=true)→cur ++ w≠[]→fieldsGo w cur=[cur ++ w]
 | [],cur,_,hn=>by
  rw [List.append_nil] at hn
  rw [fieldsGo,if_neg hn,List.append_nil]
 | b :: w,cur,hp,hn=>by
  have hb:=hp b (List.mem_cons_self ..)
  have hb':blankB b=false:=by simp [plainB] at hb;exact hb.1
  rw [fieldsGo,hb',if_neg (by simp),fieldsGo_last w (cur ++ [b]) (fun x hx=>hp x (List.mem_cons_of_mem _ hx)) (by simp),List.append_assoc]
  rfl
theorem kinds_plain:∀ r ∈ kindsT,(∀ b ∈ r.w,plainB b=true)∧r.w≠[]∧r.w.headD 0≠35:=by decide
theorem kindB_at:∀ i r,kindsT[i]? = some r→kindB r.w=some (i,r)
 | 0,r,h=>by cases h;rfl
 | 1,r,h=>by cases h;rfl
 | 2,r,h=>by cases h;rfl
 | 3,r,h=>by cases h;rfl
 | 4,r,h=>by cases h;rfl
 | 5,r,h=>by cases h;rfl
 | 6,r,h=>by cases h;rfl
 | 7,r,h=>by cases h;rfl
 | 8,r,h=>by cases h;rfl
 | 9,r,h=>by cases h;rfl
 | 10,r,h=>by cases h;rfl
 | 11,r,h=>by cases h;rfl
 | n+12,r,h=>by simp [kindsT] at h
theorem odd_plain {b:UInt8} (h:oddB b=false):plainB b=true:=by
 simp [oddB] at h
 simp [plainB,blankB]
 refine ⟨⟨by omega,by omega⟩,fun e => ?_⟩
 subst e
 simp at h
structure MayD (r:KRow) (s:Stp):Prop where
 a:s.a<10000
 b:r.b≠neg1→s.b<10000
 b0:r.b=neg1→s.b=0
 d:r.d=true→(∀ x ∈ s.d,plainB x=true)∧s.d≠[]∧s.d.length≤32
 d0:r.d≠true→s.d=[]
theorem within_le {n m:Nat} (h:within n m=true):n≤(if m<9223372036854775808 then m else 0):=by
 simp [within] at h
 exact h.2
theorem mayB_d {r:KRow} {s:Stp} (hr:r ∈ kindsT) (h:mayB r s=true):MayD r s:=by
 obtain ⟨k1,k2⟩:=kinds_ok r hr
 simp only [mayB,Bool.and_eq_true] at h
 obtain ⟨⟨h1,h2⟩,h3⟩:=h
 have h2:=within_le h2
 have h3:=within_le h3
 refine ⟨?_,fun hb => ?_,fun hb => ?_,fun hd => ?_,fun hd => ?_⟩
 ·split at h2 <;> omega
 ·rcases k2 with k2 | k2
  ·exact absurd k2 hb
  ·split at h3 <;> omega
 ·rw [hb,if_neg (by decide)] at h3
  omega
 ·rw [if_pos hd] at h1
  simp only [Bool.and_eq_true,decide_eq_true_eq,Bool.not_eq_true'] at h1
  obtain ⟨⟨h4,h5⟩,h6⟩:=h1
  refine ⟨fun x hx=>odd_plain ?_,h4,h5⟩
  rw [List.any_eq_false] at h6
  simpa using h6 x hx
 ·rw [if_neg hd] at h1
  simpa using h1
theorem mayS_row {s:Stp} (h:mayS s=true):∃ r,kindsT[s.k]? = some r∧r ∈ kindsT∧mayB r s=true∧MayD r s:=by
 unfold mayS at h
 cases hr:kindsT[s.k]? with
 | none=>rw [hr] at h;cases h
 | some r=>
  rw [hr] at h
  have hm:=List.mem_of_getElem? hr
  exact ⟨r,rfl,hm,h,mayB_d hm h⟩
theorem lineOf_body {s:Stp} (h:mayS s=true):lineOf s=bodyOf s ++ [10]:=by
 obtain ⟨r,hr,_⟩:=mayS_row h
 simp only [lineOf,bodyOf,hr]
theorem body_fields {s:Stp} {r:KRow} (hr:kindsT[s.k]? = some r) (hm:r ∈ kindsT) (h:MayD r s):fieldsP (bodyOf s)=wordsOf r s:=by
 obtain ⟨p1,p2,_⟩:=kinds_plain r hm
 obtain ⟨a1,a2⟩:=decD_plain h.a
 have e1:∀ x,fieldsGo (r.w ++ 32 :: x) []=r.w :: fieldsGo x []:=fun x=>by rw [fieldsGo_word r.w x [] p1 (by simpa using p2)];rfl
 have e2:∀ x,fieldsGo (decD s.a ++ 32 :: x) []=decD s.a :: fieldsGo x []:=fun x=>by rw [fieldsGo_word _ x [] a1 (by simpa using a2)];rfl
 have e3:fieldsGo (decD s.a) []=[decD s.a]:=by rw [fieldsGo_last _ [] a1 (by simpa using a2)];rfl
 show fieldsGo (bodyOf s) []=_
 simp only [bodyOf,hr,wordsOf]
 by_cases hb:r.b=neg1
 ·rw [if_pos hb,if_pos hb]
  by_cases hd:r.d=true
  ·obtain ⟨d1,d2,_⟩:=h.d hd
   rw [if_pos hd,if_pos hd]
   simp only [List.append_nil,List.append_assoc,List.cons_append]
   rw [e1,e2,fieldsGo_last _ [] d1 (by simpa using d2)] <;> rfl
  ·rw [if_neg hd,if_neg hd]
   simp only [List.append_nil,List.append_assoc,List.cons_append]
   rw [e1,e3] <;> rfl
 ·obtain ⟨b1,b2⟩:=decD_plain (h.b hb)
  rw [if_neg hb,if_neg hb]
  by_cases hd:r.d=true
  ·obtain ⟨d1,d2,_⟩:=h.d hd
   rw [if_pos hd,if_pos hd]
   simp only [List.append_nil,List.append_assoc,List.cons_append]
   rw [e1,e2,fieldsGo_word _ _ [] b1 (by simpa using b2),fieldsGo_last _ [] d1 (by simpa using d2)] <;> rfl
  ·rw [if_neg hd,if_neg hd]
   simp only [List.append_nil,List.append_assoc,List.cons_append]
   rw [e1,e2,fieldsGo_last _ [] b1 (by simpa using b2)] <;> rfl
theorem step_words {num:List UInt8→Nat} (N:NumOK num) {s:Stp} {r:KRow} (hr:kindsT[s.k]? = some r) (hm:r ∈ kindsT) (hb:mayB r s=true) (h:MayD r s):stepP num (wordsOf r s)=(s,0):=by
 have hk:=kindB_at s.k r hr
 have n1:num (decD s.a)=s.a:=(N.is _ _ h.a).2 rfl
 have hw:wordsOf r s=r.w :: decD s.a :: ((if r.b=neg1 then [] else [decD s.b]) ++ (if r.d=true then [s.d] else [])):=rfl
 obtain ⟨k,a,b,d⟩:=s
 unfold stepP
 rw [hw,show kindB ((r.w :: decD a :: ((if r.b=neg1 then [] else [decD b]) ++ (if r.d=true then [d] else []))).headD [])=some (k,r) from hk]
 simp only [List.tail_cons,List.headD_cons]
 simp only [] at n1
 by_cases h1:r.b=neg1
 ·have hb0:b=0:=h.b0 h1
  simp only [if_pos h1,List.nil_append]
  by_cases h2:r.d=true
  ·simp only [if_pos h2,List.headD_cons,List.tail_cons,n1]
   subst hb0
   rw [if_pos ⟨trivial,hb⟩]
  ·have hd0:d=[]:=h.d0 h2
   simp only [if_neg h2,n1]
   subst hb0
   subst hd0
   rw [if_pos ⟨trivial,hb⟩]
 ·have n2:num (decD b)=b:=(N.is _ _ (h.b h1)).2 rfl
  simp only [if_neg h1,List.cons_append,List.nil_append,List.headD_cons,List.tail_cons]
  by_cases h2:r.d=true
  ·simp only [if_pos h2,List.headD_cons,List.tail_cons,n1,n2]
   rw [if_pos ⟨trivial,hb⟩]
  ·have hd0:d=[]:=h.d0 h2
   simp only [if_neg h2,n1,n2]
   subst hd0
   rw [if_pos ⟨trivial,hb⟩]
end Go.Ev
end
section
namespace Go.Ev
theorem linesP_last:∀ (w:List UInt8),(∀ b ∈ w,b≠10)→linesP w=[w]
 | [],_=>rfl
 | b :: w,h=>by
  rw [linesP,if_neg (h b (List.mem_cons_self ..)),linesP_last w fun x hx=>h x (List.mem_cons_of_mem _ hx)]
theorem linesP_line:∀ (w rest:List UInt8),(∀ b ∈ w,b≠10)→linesP (w ++ 10 :: rest)=w :: linesP rest
 | [],rest,_=>by rw [List.nil_append,linesP,if_pos rfl]
 | b :: w,rest,h=>by
  rw [List.cons_append,linesP,if_neg (h b (List.mem_cons_self ..)),linesP_line w rest fun x hx=>h x (List.mem_cons_of_mem _ hx)]
theorem plain_ne {w:List UInt8} (h:∀ b ∈ w,plainB b=true):∀ b ∈ w,b≠10:=fun b hb=>by
 have:=h b hb
 simp [plainB] at this
 exact this.2
theorem body_ne {s:Stp} (h:mayS s=true):∀ b ∈ bodyOf s,b≠10:=by
 obtain ⟨r,hr,hm,_,D⟩:=mayS_row h
 have p1:=plain_ne (kinds_plain r hm).1
 have p2:=plain_ne (decD_plain D.a).1
 intro b hb
 simp only [bodyOf,hr,List.mem_append] at hb
 rcases hb with ((hb | hb) | hb) | hb
 ·exact p1 b hb
 ·rcases List.mem_cons.1 hb with rfl | hb
  ·decide
  ·exact p2 b hb
 ·split at hb
  ·cases hb
  ·rename_i h1
   rcases List.mem_cons.1 hb with rfl | hb
   ·decide
   ·exact plain_ne (decD_plain (D.b h1)).1 b hb
 ·split at hb
  ·rename_i h1
   rcases List.mem_cons.1 hb with rfl | hb
   ·decide
   ·exact plain_ne (D.d h1).1 b hb
  ·cases hb
theorem body_line {num:List UInt8→Nat} (N:NumOK num) {s:Stp} (h:mayS s=true):lineP (bodyOf s)=some (fieldsP (bodyOf s))∧stepP num (fieldsP (bodyOf s))=(s,0):=by
 obtain ⟨r,hr,hm,hb,D⟩:=mayS_row h
 have hf:=body_fields hr hm D
 obtain ⟨_,k2,k3⟩:=kinds_plain r hm
 refine ⟨?_,by rw [hf];exact step_words N hr hm hb D⟩
 unfold lineP
 rw [hf,if_neg]
 rintro (h1 | h1)
 ·simp [wordsOf] at h1
 ·exact k3 h1
theorem parseGo_body {num:List UInt8→Nat} (N:NumOK num) {s:Stp} (h:mayS s=true) (a:Nat) (acc:List Stp) (hacc:acc.length≠4096) (ls:List (List UInt8)):parseGo num (bodyOf s :: ls) a acc=parseGo num ls (a+1) (acc ++ [s]):=by
 obtain ⟨h1,h2⟩:=body_line N h
 simp only [parseGo,h1,h2]
 rw [if_neg (by simp),if_neg hacc]
theorem parse_body {num:List UInt8→Nat} (N:NumOK num) {s:Stp} (h:mayS s=true):parseGo num (linesP (bodyOf s)) 0 [] = .ok [s]:=by
 rw [linesP_last _ (body_ne h),parseGo_body N h 0 [] (by simp)]
 rfl
theorem parseGo_nil (num:List UInt8→Nat) (a:Nat) (acc:List Stp):parseGo num [[]] a acc = .ok acc:=by
 simp only [parseGo]
 have:lineP []=none:=by unfold lineP;rw [if_pos (Or.inl (show fieldsP []=[] from rfl))]
 rw [this]
theorem parse_lines {num:List UInt8→Nat} (N:NumOK num):∀ (l:List Stp) (a:Nat) (acc:List Stp),(∀ s ∈ l,mayS s=true)→acc.length+l.length≤4096→parseGo num (linesP (l.flatMap lineOf)) a acc = .ok (acc ++ l)
 | [],a,acc,_,_=>by
  rw [List.flatMap_nil,List.append_nil]
  exact parseGo_nil num a acc
 | s :: l,a,acc,h,hl=>by
  have hs:=h s (List.mem_cons_self ..)
  simp only [List.length_cons] at hl
  rw [List.flatMap_cons,lineOf_body hs,List.append_assoc]
  show parseGo num (linesP (bodyOf s ++ 10 :: l.flatMap lineOf)) a acc=_
  rw [linesP_line _ _ (body_ne hs),parseGo_body N hs a acc (by omega),parse_lines N l (a+1) (acc ++ [s]) (fun x hx=>h x (List.mem_cons_of_mem _ hx)) (by simp;omega),List.append_assoc]
  rfl
theorem stepP_some {num:List UInt8→Nat} {F:List (List UInt8)} {i:Nat} {r:KRow} (hk:kindB (F.headD [])=some (i,r)):∃ (l3:List (List UInt8)) (s:Stp),s.k=i∧stepP num F=if l3=[]∧mayB r s=true then (s,0) else (stp0,4):=by
 unfold stepP
 rw [hk]
 refine ⟨_,_, ?_,rfl⟩
 rfl
theorem stepP_may {num:List UInt8→Nat} {F:List (List UInt8)} (h:(stepP num F).2=0):mayS (stepP num F).1=true:=by
 cases hk:kindB (F.headD []) with
 | none=>
  unfold stepP at h
  rw [hk] at h
  cases h
 | some p=>
  obtain ⟨i,r⟩:=p
  obtain ⟨l3,s,hs,he⟩:=stepP_some (num:=num) hk
  rw [he] at h ⊢
  by_cases hc:l3=[]∧mayB r s=true
  ·rw [if_pos hc]
   obtain ⟨_,_,_,h4,_⟩:=findK_mem kindsT 0 _ i r hk
   rw [Nat.sub_zero] at h4
   unfold mayS
   rw [show ((s,0):Stp × Nat).1=s from rfl,hs,h4]
   exact hc.2
  ·rw [if_neg hc] at h
   cases h
theorem parseGo_may {num:List UInt8→Nat}:∀ (ls:List (List UInt8)) (a:Nat) (acc out:List Stp),(∀ s ∈ acc,mayS s=true)→parseGo num ls a acc = .ok out → ∀ s ∈ out,mayS s=true
 | [],a,acc,out,h,ho=>by cases ho;exact h
 | l :: ls,a,acc,out,h,ho=>by
  simp only [parseGo] at ho
  cases hl:lineP l with
  | none=>rw [hl] at ho;exact parseGo_may ls _ _ _ h ho
  | some F=>
   rw [hl] at ho
   simp only [] at ho
   split at ho
   ·cases ho
   ·rename_i h1
    split at ho
    ·cases ho
    ·refine parseGo_may ls _ _ _ (fun s hs => ?_) ho
     rcases List.mem_append.1 hs with hs | hs
     ·exact h s hs
     ·rw [List.mem_singleton] at hs
      subst hs
      exact stepP_may (by omega)
end Go.Ev
end
section
namespace Go.Ev
def nWorks (args:List V) (H:Heap) (k:K):R:=match args with
 | []=>k (.bool true) H
 | _=>no 0
def CapOK (v:V):Prop:=v = .nils ∨ ∃ b o n c z,v = .slice b o n c z∧n+1≤c
theorem printP_one {s:Stp}:printP [s]=if mayS s=true then (lineOf s,0) else ([],2):=by
 unfold printP
 rw [if_neg (by simp)]
 by_cases h:mayS s=true
 ·rw [if_pos (by simp [h]),if_pos h]
  simp
 ·rw [if_neg (by simp [h]),if_neg h]
theorem StAt.one_of {H:Heap} {b o c z:Nat} {l:List Stp} (h:StAt H (.slice b o l.length c z) l) {i:Nat} {s:Stp} (hi:l[i]? = some s) (c' z':Nat):StAt H (.slice b (o+i * 4) 1 c' z') [s]:=by
 have hl:i<l.length:=by
  rcases Nat.lt_or_ge i l.length with h | h
  ·exact h
  ·rw [List.getElem?_eq_none h] at hi;cases hi
 rcases h with ⟨_,rfl⟩ | ⟨b',o',zc1,z1,row,he,h2,h3,h4,h5⟩
 ·simp at hl
 ·cases he
  refine Or.inr ⟨b,o+i * 4,c',z',row,rfl,h2,h3,by simp;omega, ?_⟩
  have hsplit:l=l.take i ++ (s :: l.drop (i+1)):=by
   obtain ⟨h8,h9⟩:=List.getElem?_eq_some_iff.1 hi
   have:=List.drop_eq_getElem_cons h8
   rw [h9] at this
   rw [← this,List.take_append_drop]
  have hS:Stps l=Stps (l.take i) ++ (s.cells ++ Stps (l.drop (i+1))):=by
   conv=>lhs;rw [hsplit]
   simp only [Stps,List.flatMap_append,List.flatMap_cons]
  have h6:(Stps (l.take i)).length=i * 4:=by rw [Stps_len,List.length_take,Nat.min_eq_left (by omega)]
  have h7:((row.drop o).take (l.length * 4)).drop (i * 4)=s.cells ++ Stps (l.drop (i+1)):=by rw [h5,hS,← h6,List.drop_left]
  have h8:(((row.drop o).take (l.length * 4)).drop (i * 4)).take 4=s.cells:=by rw [h7];rfl
  rw [List.drop_take,List.take_take,List.drop_drop] at h8
  have h9:Stps [s]=s.cells:=by simp [Stps]
  rw [h9,← h8,Nat.min_eq_left (by omega)]
  rfl
section
variable {t:Nat→Option FnE} {cp:RC→CodeE} {fuel:Nat} {H:Heap} {dec:List UInt8→Nat × Nat} {num:List UInt8→Nat}
theorem works_call (hwk:t 8=some (.nat nWorks)) {d:Nat} {k:K} {G:Heap}:callP (evP cp t fuel (d+1)) (.func 16 []) [] G k=k (.bool true) G:=by
 rw [call_nat hwk rfl rfl]
 rfl
theorem linesE_loop (hp:t 5=some (.nat nPrint)) (hwk:t 8=some (.nat nWorks)) {b o c z:Nat} {l:List Stp} (hl:StAt H (.slice b o l.length c z) l) (hc:l.length+1≤c) (hn:l.length≤60) (hbad:∃ s ∈ l,mayS s≠true) (hok:∀ s ∈ l,StOK s) :
  ∀ (m i:Nat),i+m=l.length→(∀ s ∈ l.take i,mayS s=true) → ∀ (d:Nat) (kx:Nat→KE) (r:Nat) (e:Env),m<r→pget ⟨.i0, .i0, .i0⟩ e = .slice b o l.length c z→pget ⟨.i0, .i0, .i3⟩ e = .str 0 0→pget ⟨.i0, .i0, .i5⟩ e = .int 3 i →
   ∀ x:R,(∀ e',pget ⟨.i0, .i0, .i2⟩ e' = .bool true→kx 0 e' H=x)→evL c4l0 fuel (evP cp t fuel (d+1)) kx r e H=x:=by
 intro m
 induction m with
 | zero=>
  intro i hi ht
  obtain ⟨s,h1,h2⟩:=hbad
  rw [List.take_of_length_le (by omega)] at ht
  exact absurd (ht s h1) h2
 | succ m ih=>
  intro i hi ht d kx r e hr h0 h3 h5 x hx
  obtain ⟨r,rfl⟩:∃ q,r=q+1:=⟨r-1,by omega⟩
  have hlt:i<l.length:=by omega
  have g1:l[i]? = some l[i]:=List.getElem?_eq_getElem hlt
  have e1:nn i:=by unfold nn;omega
  have e2:nn l.length:=by unfold nn;omega
  have e3:i<9223372036854775808:=by omega
  have e4:l.length<9223372036854775808:=by omega
  have e5:(i+1) % 18446744073709551616=i+1:=by omega
  have e6:i+1<9223372036854775808:=by omega
  have e7:i≤i+1:=by omega
  have e8:¬ c=0:=by omega
  have e9:i+1≤c-1:=by omega
  have e10:¬ c-1=i:=by omega
  have e11:i+1-i=1:=by omega
  have hs:=hl.one_of g1 (c-1-i+1) 0
  have z1:=fun {k:K}=>print_call (cp:=cp) (fuel:=fuel) (d:=d) (k:=k) hp hs (by simp) (fun s h=>by rw [List.mem_singleton.1 h];exact hok _ (List.getElem_mem hlt))
  rw [printP_one] at z1
  have z2:=fun {k:K}=>works_call (cp:=cp) (fuel:=fuel) (d:=d) (k:=k) (G:=H) hwk
  have htn:mayS l[i]=true → ∀ s ∈ l.take (i+1),mayS s=true:=fun h s hs=>by
   rw [List.take_succ_eq_append_getElem hlt] at hs
   rcases List.mem_append.1 hs with hs | hs
   ·exact ht s hs
   ·rw [List.mem_singleton] at hs;subst hs;exact h
  generalize l[i]=s0 at z1 htn
  rw [evL_succ]
  by_cases hm:mayS s0=true
  ·rw [if_pos hm] at z1
   simp only [go_sem,↓op_app,reduceCtorEq,Nat.reduceAdd,Nat.reduceSub,Nat.reduceMul,Nat.reduceEqDiff,Nat.reduceLT,Nat.reduceDiv,Nat.reduceMod,Nat.reduceLeDiff,↓reduceIte,c4l0,h0,h5,hlt,e1,e2,e3,e4,e5,e6,e7,e8,e9,e10,e11,z1]
   refine ih (i+1) (by omega) (htn hm) d kx r _ (by omega) ?_ ?_ ?_ x hx <;> simp only [go_sem,reduceCtorEq,↓reduceIte,h0,h3]
  ·rw [if_neg hm] at z1
   simp only [go_sem,↓op_app,reduceCtorEq,Nat.reduceAdd,Nat.reduceSub,Nat.reduceMul,Nat.reduceEqDiff,Nat.reduceLT,Nat.reduceDiv,Nat.reduceMod,Nat.reduceLeDiff,↓reduceIte,c4l0,h0,h3,h5,hlt,e1,e2,e3,e4,e5,e6,e7,e8,e9,e10,e11,z1,z2,and_self]
   exact hx _ (by simp only [go_sem,reduceCtorEq,↓reduceIte])
end
end Go.Ev
end
section
namespace Go.Ev
theorem enc_byte {s:List UInt8} {i:Nat} {b:UInt8} (h:s[i]? = some b):enc s >>> (8 * i) &&& 255=b.toNat:=by
 obtain ⟨h1,h2⟩:=List.getElem?_eq_some_iff.1 h
 rw [enc_at s i h1,h2]
theorem drop_get {s:List UInt8} {i:Nat} {b:UInt8} {l:List UInt8} (h:s.drop i=b :: l):s[i]? = some b∧i<s.length∧s.drop (i+1)=l:=by
 obtain ⟨h1,h2⟩:=drop_step h
 refine ⟨h1, ?_,h2⟩
 rcases Nat.lt_or_ge i s.length with h | h
 ·exact h
 ·rw [List.getElem?_eq_none h] at h1;cases h1
section
variable {t:Nat→Option FnE} {cp:RC→CodeE} {fuel:Nat} {H:Heap} {dec:List UInt8→Nat × Nat} {num:List UInt8→Nat}
theorem linesS_loop (T:TCode t) (S:SNat t dec num) (C:CPs cp) (hfu:1000001<fuel) {b o c z:Nat} {l:List Stp} {s:List UInt8} (hl:StAt H (.slice b o l.length c z) l) (hn:l.length≤60) (hmay:∀ x ∈ l,mayS x=true) (hs:s=l.flatMap lineOf) (hsl:s.length<900000) :
  ∀ (m i n begin:Nat) (G:Heap),i+m=s.length→Fresh H G→((n=l.length∧i=s.length∧begin=s.length) ∨ ∃ x pre suf,l[n]? = some x∧bodyOf x=pre ++ suf∧s.drop begin=bodyOf x ++ 10 :: (l.drop (n+1)).flatMap lineOf∧i=begin+pre.length) →
  ∃ G',Fresh H G' ∧ ∀ (d:Nat) (kx:Nat→KE) (r:Nat) (e:Env),m<r→pget ⟨.i0, .i0, .i0⟩ e = .slice b o l.length c z→pget ⟨.i0, .i0, .i3⟩ e=tv s→pget ⟨.i0, .i1, .i0⟩ e = .int 3 n→pget ⟨.i0, .i1, .i1⟩ e = .int 3 begin→pget ⟨.i0, .i1, .i2⟩ e = .int 3 i →
   ∀ x:R,(∀ e',pget ⟨.i0, .i0, .i0⟩ e' = .slice b o l.length c z→pget ⟨.i0, .i0, .i3⟩ e'=tv s→pget ⟨.i0, .i1, .i0⟩ e' = .int 3 l.length→pget ⟨.i0, .i1, .i1⟩ e' = .int 3 s.length→kx 3 e' G'=x)→evL c4l1 fuel (evP cp t fuel (d+6)) kx r e G=x:=by
 intro m
 induction m with
 | zero=>
  intro i n begin G hi f hst
  have hst':n=l.length∧i=s.length∧begin=s.length:=by
   rcases hst with h | ⟨x,pre,suf,h1,h2,h3,h4⟩
   ·exact h
   ·have:=congrArg List.length h3
    rw [List.length_drop,h2] at this
    simp at this
    omega
  obtain ⟨rfl,hi2,rfl⟩:=hst'
  refine ⟨G,f,fun d kx r e hr h0 h3 h10 h11 h12 x hx => ?_⟩
  obtain ⟨r,rfl⟩:∃ q,r=q+1:=⟨r-1,by omega⟩
  have e1:nn s.length:=by unfold nn;omega
  have e2:¬ s.length<s.length:=by omega
  have e3:s.length<9223372036854775808:=by omega
  rw [hi2] at h12
  rw [evL_succ]
  simp only [go_sem,↓op_app,reduceCtorEq,Nat.reduceAdd,Nat.reduceSub,Nat.reduceMul,Nat.reduceEqDiff,Nat.reduceLT,Nat.reduceDiv,Nat.reduceMod,Nat.reduceLeDiff,↓reduceIte,c4l1,h3,h12,vStr_tv,e1,e2,e3]
  refine hx _ ?_ ?_ ?_ ?_ <;> simp only [go_sem,reduceCtorEq,↓reduceIte,h0,h3,h10,h11]
 | succ m ih=>
  intro i n begin G hi f hst
  rcases hst with ⟨_,h,_⟩ | ⟨x0,pre,suf,h1,h2,h3,h4⟩
  ·omega
  have hx0:=hmay x0 (List.mem_of_getElem? h1)
  have hdi:s.drop i=suf ++ 10 :: (l.drop (n+1)).flatMap lineOf:=by
   rw [h4,← List.drop_drop,h3,h2,List.append_assoc,List.drop_left]
  have hw:=f.wf
  have e1:nn i:=by unfold nn;omega
  have e2:nn s.length:=by unfold nn;omega
  have e3:s.length<9223372036854775808:=by omega
  have e4:i<9223372036854775808:=by omega
  have e5:(i+1) % 18446744073709551616=i+1:=by omega
  have hlt:i<s.length:=by omega
  cases suf with
  | cons y suf=>
   obtain ⟨b1,b2,b3⟩:=drop_get (by rw [hdi];rfl)
   have hE:=enc_byte b1
   have hy:y≠10:=body_ne hx0 y (by rw [h2];simp)
   have hy':(y.toNat=10)=False:=eq_false fun h=>hy (UInt8.toNat_inj.1 h)
   obtain ⟨G',f',z'⟩:=ih (i+1) n begin G (by omega) f (Or.inr ⟨x0,pre ++ [y],suf,h1,by rw [h2,List.append_assoc];rfl,h3,by simp;omega⟩)
   refine ⟨G',f',fun d kx r e hr h0 hs3 h10 h11 h12 x hx => ?_⟩
   obtain ⟨r,rfl⟩:∃ q,r=q+1:=⟨r-1,by omega⟩
   rw [evL_succ]
   simp only [go_sem,↓op_app,reduceCtorEq,Nat.reduceAdd,Nat.reduceSub,Nat.reduceMul,Nat.reduceEqDiff,Nat.reduceLT,Nat.reduceDiv,Nat.reduceMod,Nat.reduceLeDiff,↓reduceIte,c4l1,hs3,h12,vStr_tv,e1,e2,e3,e4,e5,hlt,hE,hy']
   refine z' d kx r _ (by omega) ?_ ?_ ?_ ?_ ?_ x hx <;> simp only [go_sem,↓op_app,reduceCtorEq,Nat.reduceAdd,Nat.reduceSub,Nat.reduceMul,Nat.reduceEqDiff,Nat.reduceLT,Nat.reduceDiv,Nat.reduceMod,Nat.reduceLeDiff,↓reduceIte,h0,hs3,h10,h11]
  | nil=>
   rw [List.append_nil] at h2
   obtain ⟨b1,b2,b3⟩:=drop_get (show s.drop i=10 :: (l.drop (n+1)).flatMap lineOf by rw [hdi];rfl)
   have hE:=enc_byte b1
   have h10:(10:UInt8).toNat=10:=rfl
   rw [h10] at hE
   have hbi:begin≤i:=by omega
   have hbod:(s.drop begin).take (i-begin)=bodyOf x0:=by
    rw [h3,show i-begin=(bodyOf x0).length by rw [h2];omega,List.take_left]
   have eB:V.str (i-begin) (enc s >>> (8 * begin) % 256 ^ (i-begin))=tv (bodyOf x0):=by
    rw [str_sl hbi (by omega),hbod]
   have hbl:(bodyOf x0).length<999990:=by rw [h2];omega
   obtain ⟨G1,v1,f1,gv1,z1⟩:=parse_ok (cp:=cp) (fuel:=fuel) T S C hw hfu hbl (parse_body S.nok hx0)
   have hst1:=gv1.stAt
   obtain ⟨pb,po,pc,pz,hpv,zr1⟩:=hst1.four (i:=0) rfl
   obtain ⟨qb,qo,qc,qz,hqv,zr2⟩:=(hl.fresh (f.trans f1)).four h1
   cases hqv
   subst hpv
   have hnl:n<l.length:=by
    rcases Nat.lt_or_ge n l.length with h | h
    ·exact h
    ·rw [List.getElem?_eq_none h] at h1;cases h1
   obtain ⟨G',f',z'⟩:=ih (i+1) (n+1) (i+1) G1 (by omega) (f.trans f1) (by
    cases hd:l.drop (n+1) with
    | nil=>
     rw [hd] at b3
     rw [List.drop_eq_nil_iff] at hd
     have:=congrArg List.length b3
     simp at this
     exact Or.inl ⟨by omega,by omega,by omega⟩
    | cons x1 rest=>
     obtain ⟨zc1,zc2⟩:=drop_step hd
     refine Or.inr ⟨x1,[],bodyOf x1,zc1,rfl, ?_,by simp⟩
     rw [b3,hd,List.flatMap_cons,lineOf_body (hmay x1 (List.mem_of_getElem? zc1)),List.append_assoc,zc2]
     rfl)
   have n1:nn n:=by unfold nn;omega
   have n2:nn l.length:=by unfold nn;omega
   have n3:l.length<9223372036854775808:=by omega
   have n4:¬ l.length≤n:=by omega
   have n5:(n+1) % 18446744073709551616=n+1:=by omega
   have n6:n<9223372036854775808:=by omega
   have n7:begin<9223372036854775808:=by omega
   have n8:i≤s.length:=by omega
   have hw1:=f1.wf
   refine ⟨G',f',fun d kx r e hr h0 hs3 h10 h11 h12 x hx => ?_⟩
   obtain ⟨r,rfl⟩:∃ q,r=q+1:=⟨r-1,by omega⟩
   have z1':=fun {k:K}=>z1 d k
   have zq:∀ {id:Nat} {ph:Phi} {e':Env} {H:Heap} {k:K},pgetA (.s ⟨.i1, .i2, .i5⟩) e' = .agg x0.cells→pgetA (.s ⟨.i1, .i3, .i1⟩) e' = .agg x0.cells→evOp (.aggEq [1,1,1,2] true (.s ⟨.i1, .i2, .i5⟩) (.s ⟨.i1, .i3, .i1⟩)) id ph e' H k=k (.bool false) H:=fun {id ph e' H k} p q=>by
    rw [op_aggEqS p q,if_pos rfl]
    rfl
   simp only [Nat.zero_mul,Nat.add_zero,List.length_cons,List.length_nil] at zr1
   rw [evL_succ]
   simp only [go_sem,↓op_app,reduceCtorEq,Nat.reduceAdd,Nat.reduceSub,Nat.reduceMul,Nat.reduceEqDiff,Nat.reduceLT,Nat.reduceDiv,Nat.reduceMod,Nat.reduceLeDiff,↓reduceIte,c4l1,hs3,h0,h10,h11,h12,vStr_tv,e1,e2,e3,e4,e5,hlt,hE,hbi,n7,n8,eB,z1',n1,n2,n3,n4,n5,n6,hnl,hw1,zr1,zr2,↓zq]
   refine z' d kx r _ (by omega) ?_ ?_ ?_ ?_ ?_ x hx <;> simp only [go_sem,↓op_app,reduceCtorEq,Nat.reduceAdd,Nat.reduceSub,Nat.reduceMul,Nat.reduceEqDiff,Nat.reduceLT,Nat.reduceDiv,Nat.reduceMod,Nat.reduceLeDiff,↓reduceIte,h0,hs3]
end
end Go.Ev
end
section
namespace Go.Ev
theorem decD_len (n:Nat):(decD n).length≤4:=by
 unfold decD
 split
 ·simp
 ·split
  ·simp
  ·split <;> simp
theorem kinds_len:∀ r ∈ kindsT,r.w.length≤7:=by decide
theorem lineOf_len {s:Stp} (h:mayS s=true):(lineOf s).length≤100:=by
 obtain ⟨r,hr,hm,_,D⟩:=mayS_row h
 have h1:=kinds_len r hm
 have h2:=decD_len s.a
 have h3:=decD_len s.b
 simp only [lineOf,hr,List.length_append,List.length_cons,List.length_nil]
 have h4:(if r.b=neg1 then ([]:List UInt8) else 32 :: decD s.b).length≤5:=by
  split
  ·simp
  ·simp;omega
 have h5:(if r.d=true then 32 :: s.d else ([]:List UInt8)).length≤33:=by
  split
  ·rename_i hd
   have:=(D.d hd).2.2
   simp;omega
  ·simp
 omega
theorem lines_lenP:∀ (l:List Stp),(∀ s ∈ l,mayS s=true)→(l.flatMap lineOf).length≤l.length * 100
 | [],_=>by simp
 | s :: l,h=>by
  have h1:=lineOf_len (h s (List.mem_cons_self ..))
  have h2:=lines_lenP l fun x hx=>h x (List.mem_cons_of_mem _ hx)
  rw [List.flatMap_cons,List.length_append,List.length_cons]
  omega
theorem printP_ok {l:List Stp} (h:∀ s ∈ l,mayS s=true) (hl:l.length≤4096):printP l=(l.flatMap lineOf,0):=by
 unfold printP
 rw [if_neg (by omega),if_pos (by rw [List.all_eq_true];exact h)]
theorem printP_bad {l:List Stp} (h:∃ s ∈ l,mayS s≠true) (hl:l.length≤4096):printP l=([],2):=by
 unfold printP
 rw [if_neg (by omega),if_neg]
 intro h1
 rw [List.all_eq_true] at h1
 obtain ⟨s,h2,h3⟩:=h
 exact h3 (h1 s h2)
theorem StAt.take {H:Heap} {b o c z:Nat} {l:List Stp} (h:StAt H (.slice b o l.length c z) l) {q:Nat} (hq:q≤l.length) (c' z':Nat):StAt H (.slice b o q c' z') (l.take q):=by
 have hl:(l.take q).length=q:=by rw [List.length_take];omega
 rcases h with ⟨_,rfl⟩ | ⟨b',o',zc1,z1,row,he,h2,h3,h4,h5⟩
 ·have:q=0:=by simpa using hq
  subst this
  exact Or.inl ⟨Or.inr ⟨_,_,_,_,rfl⟩,rfl⟩
 ·cases he
  refine Or.inr ⟨b,o,c',z',row,by rw [hl],h2,h3,by rw [hl];omega, ?_⟩
  have hS:Stps l=Stps (l.take q) ++ Stps (l.drop q):=by
   conv=>lhs;rw [← List.take_append_drop q l]
   simp only [Stps,List.flatMap_append]
  have h6:(Stps (l.take q)).length=q * 4:=by rw [Stps_len,hl]
  have h7:((row.drop o).take (l.length * 4)).take (q * 4)=Stps (l.take q):=by rw [h5,hS,← h6,List.take_left]
  rw [List.take_take,Nat.min_eq_left (by omega)] at h7
  rw [hl,h7]
section
variable {t:Nat→Option FnE} {cp:RC→CodeE} {fuel:Nat} {H:Heap} {dec:List UInt8→Nat × Nat} {num:List UInt8→Nat}
theorem linesT_run (T:TCode t) (S:SNat t dec num) (C:CPs cp) (hp:t 5=some (.nat nPrint)) (hwk:t 8=some (.nat nWorks)) (hw:H.wf) (hfu:1000001<fuel) {v:V} {l:List Stp} (hl:StAt H v l) (hn:l.length≤60) (hv:(v = .nils∧l=[]) ∨ ∃ b o c z,v = .slice b o l.length c z∧l.length+1≤c) (hok:∀ s ∈ l,StOK s) :
  ∃ G,Fresh H G ∧ ∀ (d:Nat) (kn:KE) (kx:Nat→KE) (e:Env) (x:R),pget ⟨.i0, .i0, .i0⟩ e=v→(∀ e',pget ⟨.i0, .i0, .i2⟩ e' = .bool true→kx 0 e' G=x)→evC c4r2 fuel (evP cp t fuel (d+6)) e H kn kx=x:=by
 have hpr:=fun {d:Nat} {k:K}=>print_call (cp:=cp) (fuel:=fuel) (d:=d) (k:=k) hp hl (by omega) hok
 by_cases hall:∀ s ∈ l,mayS s=true
 ·rw [printP_ok hall (by omega)] at hpr
  have hlen:=lines_lenP l hall
  rcases hv with ⟨rfl,rfl⟩ | ⟨b,o,c,z,rfl,hc⟩
  ·have z2:=fun {d:Nat} {k:K}=>works_call (cp:=cp) (fuel:=fuel) (d:=d) (k:=k) (G:=H) hwk
   refine ⟨H,Fresh.refl hw,fun d kn kx e x h0 hx => ?_⟩
   obtain ⟨fuel',rfl⟩:∃ q,fuel=q+1:=⟨fuel-1,by omega⟩
   simp only [go_sem,↓op_app,reduceCtorEq,Nat.reduceAdd,Nat.reduceSub,Nat.reduceMul,Nat.reduceEqDiff,Nat.reduceLT,Nat.reduceDiv,Nat.reduceMod,Nat.reduceLeDiff,↓reduceIte,c4r2,c4r3,c4r4,c4r5,h0,hpr,List.flatMap_nil]
   rw [evL_succ]
   simp only [go_sem,↓op_app,reduceCtorEq,Nat.reduceAdd,Nat.reduceSub,Nat.reduceMul,Nat.reduceEqDiff,Nat.reduceLT,Nat.reduceDiv,Nat.reduceMod,Nat.reduceLeDiff,↓reduceIte,c4l1,c4r6,c4r7,h0,vStr_tv,z2]
   exact hx _ (by simp only [go_sem,reduceCtorEq,↓reduceIte])
  ·obtain ⟨G,f,z1⟩:=linesS_loop (cp:=cp) (fuel:=fuel) T S C hfu hl hn hall rfl (by omega) (l.flatMap lineOf).length 0 0 0 H (by omega) (Fresh.refl hw) (by
    cases l with
    | nil=>exact Or.inl ⟨rfl,rfl,rfl⟩
    | cons x rest=>
     refine Or.inr ⟨x,[],bodyOf x,rfl,rfl, ?_,rfl⟩
     rw [List.drop_zero,List.flatMap_cons,lineOf_body (hall x (List.mem_cons_self ..)),List.append_assoc]
     rfl)
   have z2:=fun {d:Nat} {k:K}=>works_call (cp:=cp) (fuel:=fuel) (d:=d) (k:=k) (G:=G) hwk
   have n2:l.length<9223372036854775808:=by omega
   have n3:(l.flatMap lineOf).length<9223372036854775808:=by omega
   refine ⟨G,f,fun d kn kx e x h0 hx => ?_⟩
   simp only [go_sem,↓op_app,reduceCtorEq,Nat.reduceAdd,Nat.reduceSub,Nat.reduceMul,Nat.reduceEqDiff,Nat.reduceLT,Nat.reduceDiv,Nat.reduceMod,Nat.reduceLeDiff,↓reduceIte,c4r2,c4r3,c4r4,c4r5,h0,hpr]
   refine z1 d _ fuel _ (by omega) ?_ ?_ ?_ ?_ ?_ x fun e' q0 q3 q10 q11 => ?_
   ·simp only [go_sem,reduceCtorEq,↓reduceIte,h0]
   ·simp only [go_sem,reduceCtorEq,↓reduceIte]
   ·simp only [go_sem,reduceCtorEq,↓reduceIte]
   ·simp only [go_sem,reduceCtorEq,↓reduceIte]
   ·simp only [go_sem,reduceCtorEq,↓reduceIte]
   ·simp only [go_sem,↓op_app,reduceCtorEq,Nat.reduceAdd,Nat.reduceSub,Nat.reduceMul,Nat.reduceEqDiff,Nat.reduceLT,Nat.reduceDiv,Nat.reduceMod,Nat.reduceLeDiff,↓reduceIte,c4r6,c4r7,q0,q3,q10,q11,vStr_tv,n2,n3,z2]
    exact hx _ (by simp only [go_sem,reduceCtorEq,↓reduceIte])
 ·have hbad:∃ s ∈ l,mayS s≠true:=by
   refine Classical.byContradiction fun h=>hall fun s hs=>Classical.byContradiction fun h2=>h ⟨s,hs,h2⟩
  rw [printP_bad hbad (by omega)] at hpr
  rcases hv with ⟨_,rfl⟩ | ⟨b,o,c,z,rfl,hc⟩
  ·obtain ⟨s,h1,_⟩:=hbad
   cases h1
  ·refine ⟨H,Fresh.refl hw,fun d kn kx e x h0 hx => ?_⟩
   simp only [go_sem,↓op_app,reduceCtorEq,Nat.reduceAdd,Nat.reduceSub,Nat.reduceMul,Nat.reduceEqDiff,Nat.reduceLT,Nat.reduceDiv,Nat.reduceMod,Nat.reduceLeDiff,↓reduceIte,c4r2,c4r3,h0,hpr]
   refine linesE_loop hp hwk hl hc hn hbad hok l.length 0 (by omega) (by simp) (d+5) _ fuel _ (by omega) ?_ ?_ ?_ x fun e' h2 => ?_
   ·simp only [go_sem,reduceCtorEq,↓reduceIte,h0]
   ·simp only [go_sem,↓op_app,reduceCtorEq,Nat.reduceAdd,Nat.reduceSub,Nat.reduceMul,Nat.reduceEqDiff,Nat.reduceLT,Nat.reduceDiv,Nat.reduceMod,Nat.reduceLeDiff,↓reduceIte,tv_nil]
   ·simp only [go_sem,reduceCtorEq,↓reduceIte]
   ·simp only [go_sem,reduceCtorEq,↓reduceIte]
    exact hx _ h2
theorem lines_law (T:TCode t) (S:SNat t dec num) (C:CPs cp) (hp:t 5=some (.nat nPrint)) (hwk:t 8=some (.nat nWorks)) (hw:H.wf) (hfu:1000001<fuel) {v:V} {l:List Stp} (hl:StAt H v l) (hv:(v = .nils∧l=[]) ∨ ∃ b o c z,v = .slice b o l.length c z∧l.length+1≤c) (hb:l.length<9223372036854775808) (hok:∀ s ∈ l,StOK s) :
  ∃ G,Fresh H G ∧ ∀ (d:Nat) (k:K),callP (evP cp t fuel (d+7)) (.func 8 []) [v] H k=k (.bool true) G:=by
 rcases hv with ⟨rfl,rfl⟩ | ⟨b,o,c,z,rfl,hc⟩
 ·obtain ⟨G,f,z1⟩:=linesT_run (cp:=cp) (fuel:=fuel) T S C hp hwk hw hfu hl (by simp) (Or.inl ⟨rfl,rfl⟩) (by simp)
  refine ⟨G,f,fun d k => ?_⟩
  rw [call_entry T.k4 rfl rfl]
  have mm0:mmN false 9223372036854775808 18446744073709551616 0 60=0:=by decide
  simp only [go_sem,↓op_app,reduceCtorEq,Nat.reduceAdd,Nat.reduceSub,Nat.reduceMul,Nat.reduceEqDiff,Nat.reduceLT,Nat.reduceDiv,Nat.reduceMod,Nat.reduceLeDiff,↓reduceIte,c4,c4r1,mm0]
  refine z1 d _ _ _ _ (by simp only [go_sem,reduceCtorEq,↓reduceIte]) fun e' h2 => ?_
  simp only [go_sem,↓op_app,reduceCtorEq,Nat.reduceAdd,Nat.reduceSub,Nat.reduceMul,Nat.reduceEqDiff,Nat.reduceLT,Nat.reduceDiv,Nat.reduceMod,Nat.reduceLeDiff,↓reduceIte,h2]
 ·have nl:nn l.length:=hb
  have n60:min l.length 60<9223372036854775808:=by omega
  have zc0:¬ c=0:=by omega
  have zc1:min l.length 60≤c-1:=by omega
  have hq:min l.length 60≤l.length:=by omega
  have htl:(l.take (min l.length 60)).length=min l.length 60:=by rw [List.length_take];omega
  by_cases hc0:c-1=0
  ·have hl0:l=[]:=List.eq_nil_of_length_eq_zero (by omega)
   subst hl0
   obtain ⟨G,f,z1⟩:=linesT_run (cp:=cp) (fuel:=fuel) (v := .slice b o 0 1 0) (l:=[]) T S C hp hwk hw hfu (Or.inl ⟨Or.inr ⟨_,_,_,_,rfl⟩,rfl⟩) (by simp) (Or.inr ⟨b,o,1,0,rfl,by simp⟩) (by simp)
   refine ⟨G,f,fun d k => ?_⟩
   have hc1:=eq_true hc0
   have mm0:mmN false 9223372036854775808 18446744073709551616 0 60=0:=by decide
   rw [call_entry T.k4 rfl rfl]
   simp only [go_sem,↓op_app,reduceCtorEq,Nat.reduceAdd,Nat.reduceSub,Nat.reduceMul,Nat.reduceEqDiff,Nat.reduceLT,Nat.reduceDiv,Nat.reduceMod,Nat.reduceLeDiff,↓reduceIte,c4,c4r1,mm0,zc0,hc1]
   refine z1 d _ _ _ _ (by simp only [go_sem,reduceCtorEq,↓reduceIte]) fun e' h2 => ?_
   simp only [go_sem,↓op_app,reduceCtorEq,Nat.reduceAdd,Nat.reduceSub,Nat.reduceMul,Nat.reduceEqDiff,Nat.reduceLT,Nat.reduceDiv,Nat.reduceMod,Nat.reduceLeDiff,↓reduceIte,h2]
  ·have hv1:=hl.take hq (c-1+1) 0
   obtain ⟨G,f,z1⟩:=linesT_run (cp:=cp) (fuel:=fuel) (v := .slice b o (min l.length 60) (c-1+1) 0) (l:=l.take (min l.length 60)) T S C hp hwk hw hfu hv1 (by rw [htl];omega) (Or.inr ⟨b,o,c-1+1,0,by rw [htl],by rw [htl];omega⟩) (fun s hs=>hok s (List.mem_of_mem_take hs))
   refine ⟨G,f,fun d k => ?_⟩
   rw [call_entry T.k4 rfl rfl]
   simp only [go_sem,↓op_app,reduceCtorEq,Nat.reduceAdd,Nat.reduceSub,Nat.reduceMul,Nat.reduceEqDiff,Nat.reduceLT,Nat.reduceDiv,Nat.reduceMod,Nat.reduceLeDiff,↓reduceIte,c4,c4r1,nl,hb,n60,zc0,zc1,hc0]
   refine z1 d _ _ _ _ (by simp only [go_sem,↓op_app,reduceCtorEq,Nat.reduceAdd,Nat.reduceSub,Nat.reduceMul,Nat.reduceEqDiff,Nat.reduceLT,Nat.reduceDiv,Nat.reduceMod,Nat.reduceLeDiff,↓reduceIte,Nat.sub_zero]) fun e' h2 => ?_
   simp only [go_sem,↓op_app,reduceCtorEq,Nat.reduceAdd,Nat.reduceSub,Nat.reduceMul,Nat.reduceEqDiff,Nat.reduceLT,Nat.reduceDiv,Nat.reduceMod,Nat.reduceLeDiff,↓reduceIte,h2]
end
end Go.Ev
end
section
namespace Go.Ev
structure FG (P:PC) (R0 E0:Nat) (lp:Blk) (c a:Nat) (G:Heap):Prop where
 f:Fresh P.H G
 n:P.Hb.n≤G.n
 lp:G.get P.y=lp
 zr0:G.get R0 = .cells [.nils]
 er:∃ q,G.get E0 = .cells [.iface 61 (.ptr q 0)]∧G.get q = .cells [.int 3 c, .int 3 a]∧P.Hb.n≤q∧q<G.n
structure RE (P:PC) (R0 E0:Nat):Prop where
 hR:P.H.n≤R0
 hE:P.H.n≤E0
 lR:R0<P.Hb.n
 lE:E0<P.Hb.n
 RE:R0≠E0
 RT:R0≠P.T
 Ry:R0≠P.y
 ET:E0≠P.T
 Ey:E0≠P.y
 RO:R0≠P.O
 RB:R0≠P.B
 EO:E0≠P.O
 EB:E0≠P.B
 gR:P.Hb.get R0 = .cells [.nils]
 gE:P.Hb.get E0 = .cells [.nili]
theorem FG.putY {P:PC} {R0 E0:Nat} {lp lp':Blk} {c a:Nat} {G:Heap} (kk:P.OK) (re:RE P R0 E0) (h:FG P R0 E0 lp c a G):FG P R0 E0 lp' c a (G.put P.y lp'):=by
 obtain ⟨h1,h2,h3,h4,q,h5,h6,h7,h8⟩:=h
 have l4:=kk.ly
 have hw:=h1.wf
 have hy:P.y<G.n:=by omega
 refine ⟨h1.put kk.hy hy,by rw [Heap.n_put];exact h2, ?_, ?_,q, ?_, ?_,h7,by rw [Heap.n_put];exact h8⟩
 ·rw [Heap.get_put hw hy,if_pos rfl]
 ·rw [Heap.get_put hw hy,if_neg re.Ry];exact h4
 ·rw [Heap.get_put hw hy,if_neg re.Ey];exact h5
 ·rw [Heap.get_put hw hy,if_neg (by omega)];exact h6
theorem nilly_nili {id:Nat} {f:Nat→R}:nilly id .nili f=f 50:=Eq.trans rfl rfl
theorem nilly_iface {id t:Nat} {v:V} {f:Nat→R}:nilly id (.iface t v) f=f 51:=Eq.trans rfl rfl
theorem closB_ii {id x y:Nat} {k:R}:closB id (.cells [.int 3 x, .int 3 y]) k=k:=Eq.trans rfl rfl
section
variable {t:Nat→Option FnE} {cp:RC→CodeE} {fuel:Nat} {dec:List UInt8→Nat × Nat} {num:List UInt8→Nat}
theorem parse_q7_bad (hA:t 18=some (.nat nAs)) {P:PC} (kk:P.OK) {R0 E0 Eb:Nat} (re:RE P R0 E0) {lp:Blk} {a c:Nat} {acc:List Stp} {bx:Blk} {G:Heap} (h:JG P lp (a+1) acc bx G) (ha:a<9223372036854775808) (hEb:G.get Eb = .cells [.int 3 0]) (hEn:P.Hb.n≤Eb) (hEl:Eb<G.n) :
  ∃ G',FG P R0 E0 lp c a G' ∧ ∀ (d:Nat) (kn:KE) (kx:Nat→KE) (e:Env) (x:R),pget ⟨.i0, .i1, .i4⟩ e = .iface 23 (.int 3 c)→pget ⟨.i0, .i1, .i5⟩ e = .ptr Eb 0→pget ⟨.i0, .i0, .i7⟩ e = .ptr P.T 0→pget ⟨.i0, .i0, .i2⟩ e = .ptr R0 0→pget ⟨.i0, .i0, .i3⟩ e = .ptr E0 0→(∀ e',kx 0 e' G'=x)→evC c6q7 fuel (evP cp t fuel (d+1)) e G kn kx=x:=by
 have hw:=h.f.wf
 have hn:=h.n
 have lT:=kk.lT
 have z1:=fun {d:Nat} {k:K}=>as_err (cp:=cp) (fuel:=fuel) (d:=d) (k:=k) (c:=c) hA hEb hw hEl
 generalize hG1:G.put Eb (.cells [.int 3 c])=G1 at z1
 have f1:Fresh P.H G1:=by rw [← hG1];exact h.f.put (by have:=h.f.n;have:=kk.hT;omega) hEl
 have n1:G1.n=G.n:=by rw [← hG1,Heap.n_put]
 have o1:∀ i,i≠Eb→G1.get i=G.get i:=fun i hi=>by rw [← hG1,Heap.get_put hw hEl,if_neg hi]
 have g1E:G1.get Eb = .cells [.int 3 c]:=by rw [← hG1,Heap.get_put hw hEl,if_pos rfl]
 have g1T:G1.get P.T = .cells [.int 3 (a+1)]:=by rw [o1 _ (by omega)];exact h.at_
 have hw1:=f1.wf
 generalize hG2:G1.new (.cells [.int 3 c, .int 3 a])=G2
 have f2:Fresh G1 G2:=by rw [← hG2];exact Fresh.new hw1
 have n2:G2.n=G1.n+1:=by rw [← hG2,Heap.n_new]
 have hw2:=f2.wf
 have g2q:G2.get G1.n = .cells [.int 3 c, .int 3 a]:=by rw [← hG2,Heap.get_new hw1,if_pos rfl]
 have o2:∀ i,i<G1.n→G2.get i=G1.get i:=f2.same
 have lR:R0<G2.n:=by have:=re.lR;omega
 have lE:E0<G2.n:=by have:=re.lE;omega
 have k2:Fresh P.H G2:=f1.trans f2
 have k3:Fresh P.H (G2.put R0 (.cells [.nils])):=k2.put re.hR lR
 have w3:=k3.wf
 have lE3:E0 < (G2.put R0 (.cells [.nils])).n:=by rw [Heap.n_put];exact lE
 have aT:(a+1+18446744073709551615) % 18446744073709551616=a:=by omega
 have m1:G1.mark.wf:=by rw [Heap.wf_mark];exact hw1
 have m2:(G1.mark.new (.cells [.int 3 c, .int 3 a])).get G1.n = .cells [.int 3 c, .int 3 a]:=by rw [Heap.get_new m1,if_pos Heap.n_mark.symm]
 have m3:G1.n≤(G1.mark.new (.cells [.int 3 c, .int 3 a])).wlo:=Nat.le_refl _
 have rl:=re.lR
 have g2R:G2.get R0 = .cells [.nils]:=by rw [o2 _ (by have:=re.lR;omega),o1 _ (by have:=re.lR;omega),h.same _ re.lR re.RO re.RT re.RB re.Ry];exact re.gR
 have g3E:(G2.put R0 (.cells [.nils])).get E0 = .cells [.nili]:=by rw [Heap.get_put hw2 lR,if_neg (Ne.symm re.RE),o2 _ (by have:=re.lE;omega),o1 _ (by have:=re.lE;omega),h.same _ re.lE re.EO re.ET re.EB re.Ey];exact re.gE
 have el:=re.lE
 refine ⟨(G2.put R0 (.cells [.nils])).put E0 (.cells [.iface 61 (.ptr G1.n 0)]),⟨k3.put re.hE lE3,by rw [Heap.n_put,Heap.n_put];omega, ?_, ?_,G1.n, ?_, ?_,by omega,by rw [Heap.n_put,Heap.n_put];omega⟩,fun d kn kx e x q14 q15 q7 q2 q3 hx => ?_⟩
 ·rw [Heap.get_put w3 lE3,if_neg (Ne.symm re.Ey),Heap.get_put hw2 lR,if_neg (Ne.symm re.Ry),o2 _ (by have:=kk.ly;omega),o1 _ (by have:=kk.ly;omega)];exact h.lp
 ·rw [Heap.get_put w3 lE3,if_neg re.RE,Heap.get_put hw2 lR,if_pos rfl]
 ·rw [Heap.get_put w3 lE3,if_pos rfl]
 ·rw [Heap.get_put w3 lE3,if_neg (by omega),Heap.get_put hw2 lR,if_neg (by omega)];exact g2q
 ·simp only [go_sem,↓op_app,reduceCtorEq,Nat.reduceAdd,Nat.reduceSub,Nat.reduceMul,Nat.reduceEqDiff,Nat.reduceLT,Nat.reduceDiv,Nat.reduceMod,Nat.reduceLeDiff,↓reduceIte,c6q7,q14,q15,isOne_iface,z1]
  simp only [go_sem,↓op_app,reduceCtorEq,Nat.reduceAdd,Nat.reduceSub,Nat.reduceMul,Nat.reduceEqDiff,Nat.reduceLT,Nat.reduceDiv,Nat.reduceMod,Nat.reduceLeDiff,↓reduceIte,evC_freg]
  refine (evFreg_2 (b:=Eb) (o:=0) (v := .int 3 c) (by simp only [go_sem,reduceCtorEq,↓reduceIte,q15]) (by omega) (fun k=>by simp only [go_sem,↓op_app,reduceCtorEq,Nat.reduceAdd,Nat.reduceSub,Nat.reduceMul,Nat.reduceEqDiff,Nat.reduceLT,Nat.reduceDiv,Nat.reduceMod,Nat.reduceLeDiff,↓reduceIte,q15,g1E]) (fun k=>apartN_nil)).trans ?_
  refine (evFreg_2 (b:=P.T) (o:=0) (v := .int 3 (a+1)) (by simp only [go_sem,reduceCtorEq,↓reduceIte,q7]) (by omega) (fun k=>by simp only [go_sem,↓op_app,reduceCtorEq,Nat.reduceAdd,Nat.reduceSub,Nat.reduceMul,Nat.reduceEqDiff,Nat.reduceLT,Nat.reduceDiv,Nat.reduceMod,Nat.reduceLeDiff,↓reduceIte,q7,g1T]) (fun k=>apartN_nil)).trans ?_
  simp only [go_sem,↓op_app,reduceCtorEq,Nat.reduceAdd,Nat.reduceSub,Nat.reduceMul,Nat.reduceEqDiff,Nat.reduceLT,Nat.reduceDiv,Nat.reduceMod,Nat.reduceLeDiff,↓reduceIte,evFreg_0,evFreg_4]
  rw [aT,hNew_new m1,Heap.n_mark,m2,if_pos m3,closB_ii,Heap.unmark_new,hG2]
  refine (evFreg_3 (b:=R0) (o:=0) (v := .tup []) (H':=G2.put R0 (.cells [.nils])) (by simp only [go_sem,reduceCtorEq,↓reduceIte,q2]) (fun k=>by simp only [go_sem,↓op_app,reduceCtorEq,Nat.reduceAdd,Nat.reduceSub,Nat.reduceMul,Nat.reduceEqDiff,Nat.reduceLT,Nat.reduceDiv,Nat.reduceMod,Nat.reduceLeDiff,↓reduceIte,q2,hw2,lR,g2R]) (fun k=>by simp only [apartN_cons,apartN_nil,re.RT,(show ¬ R0=G1.n by omega),(show ¬ R0=Eb by omega),Nat.zero_testBit,Bool.false_eq_true,if_false])).trans ?_
  simp only [go_sem,↓op_app,reduceCtorEq,Nat.reduceAdd,Nat.reduceSub,Nat.reduceMul,Nat.reduceEqDiff,Nat.reduceLT,Nat.reduceDiv,Nat.reduceMod,Nat.reduceLeDiff,↓reduceIte,evFreg_0,evFreg_nil,q3,hw2,lE,g3E,isOne_iface]
  exact hx _
def badC (num:List UInt8→Nat) (F:List (List UInt8)):Nat:=if (stepP num F).2≠0 then (stepP num F).2 else 3
theorem parse_q4_bad (hA:t 18=some (.nat nAs)) (T:TCode t) (S:SNat t dec num) {P:PC} (kk:P.OK) {R0 E0 M m W:Nat} (re:RE P R0 E0) (k0:PR0 P R0 E0 M m) {lp:Blk} {a:Nat} {acc:List Stp} {bx:Blk} {G:Heap} (h:JG P lp (a+1) acc bx G) (ha:a<9223372036854775808) {v:V} {w0:List UInt8} {l:List (List UInt8)} (gW:G.get W = .cells [v]) (hWn:W<G.n) (hv:WS G v (w0 :: l)) (hl:l.length<999999) (hx:∀ w ∈ w0 :: l,w.length≤16777216)
  (hs:(stepP num (w0 :: l)).2≠0∨acc.length=4096) (hacc:acc.length≤4096) :
  ∃ G',FG P R0 E0 lp (badC num (w0 :: l)) a G' ∧ ∀ (d:Nat) (kn:KE) (kx:Nat→KE) (e:Env) (x:R),PE P R0 E0 M W e→(∀ e',kx 0 e' G'=x)→evC c6q4 fuel (evP cp t fuel (d+3)) e G kn kx=x:=by
 have hw:=h.f.wf
 have hn:=h.n
 have gM:G.get M = .cells [.map m]:=(h.same M k0.Ml k0.MO k0.MT k0.MB k0.My).trans k0.gM
 have gm:G.get m = .map (encT (kMap 12)):=(h.same m k0.ml k0.mO k0.mT k0.mB k0.my).trans k0.gm
 have hml:=k0.ml
 obtain ⟨G1,f1,z1⟩:=step_call (cp:=cp) (fuel:=fuel) T S hw gm (by omega) hv hl hx
 generalize hse:(stepP num (w0 :: l)).1=s at z1
 have z1':=fun {d:Nat} {k:K}=>z1 d k
 have hw1:=f1.wf
 generalize hG2:(G1.new (.cells [.int 3 0, .int 3 0, .int 3 0, .str 0 0])).put G1.n (.cells s.cells)=G2
 have f12:Fresh G1 (G1.new (.cells [.int 3 0, .int 3 0, .int 3 0, .str 0 0])):=Fresh.new hw1
 have g1l:G1.n<G1.n+1:=by omega
 have f2:Fresh G G2:=by rw [← hG2];exact f1.trans (f12.put (Nat.le_refl _) (by rw [Heap.n_new];omega))
 have g2n:G2.n=G1.n+1:=by rw [← hG2,Heap.n_put,Heap.n_new]
 have hw2:=f2.wf
 generalize hG3:G2.new (.cells [.int 3 0])=G3
 have f3:Fresh G2 G3:=by rw [← hG3];exact Fresh.new hw2
 have g3n:G3.n=G2.n+1:=by rw [← hG3,Heap.n_new]
 have g3E:G3.get G2.n = .cells [.int 3 0]:=by rw [← hG3,Heap.get_new hw2,if_pos rfl]
 have h3:=(h.fresh kk f2).fresh kk f3
 have n1:=f1.n
 obtain ⟨G4,h4,z4⟩:=parse_q7_bad (cp:=cp) (fuel:=fuel) (Eb:=G2.n) (c:=badC num (w0 :: l)) hA kk re h3 ha g3E (by omega) (by omega)
 obtain ⟨vo,gO,hvo,_⟩:=(h.fresh kk f2).out
 have e1:∀ {id:Nat} {f:Nat→R},vSliceN id vo (fun _ _ len _ _=>f len) (f 0)=f acc.length:=fun {id f}=>hvo.sn
 have e2:∀ {id id2:Nat} {k:K},vSliceN id vo (fun _ _ n _ _=>lenR id2 n G2 k) (lenR id2 0 G2 k)=k (.int 3 acc.length) G2:=fun {id id2 k}=>(e1 (f:=fun n=>lenR id2 n G2 k)).trans (by rw [lenR_eq,if_pos (by omega)])
 have e3:∀ {id:Nat} {k:R},isOne id vo k=k:=fun {id k}=>hvo.is1
 have e5:s.cells.length=4:=rfl
 have e6:∀ {id:Nat} {x:R},allOne id s.cells x=x:=fun {id x}=>rfl
 have e7:∀ {id:Nat} {f:List V→R},setAt id s.cells [.int 3 0, .int 3 0, .int 3 0, .str 0 0] 0 f=f s.cells:=fun {id f}=>rfl
 have e8:∀ {id:Nat} {x:R},isOne id v x=x:=fun {id x}=>hv.one
 refine ⟨G4,h4,fun d kn kx e x E hx => ?_⟩
 have q4:=E.a4
 have q6:=E.a6
 have q11:=E.a11
 by_cases hc:(stepP num (w0 :: l)).2=0
 ·have hb:badC num (w0 :: l)=3:=by unfold badC;rw [if_neg (by rw [hc];simp)]
  have e4:(acc.length=4096)=True:=eq_true (by omega)
  have e0:errV 0 = .nili:=rfl
  rw [hc,e0] at z1'
  rw [hb] at z4
  simp only [go_sem,↓op_app,reduceCtorEq,Nat.reduceAdd,Nat.reduceSub,Nat.reduceMul,Nat.reduceEqDiff,Nat.reduceLT,Nat.reduceDiv,Nat.reduceMod,Nat.reduceLeDiff,↓reduceIte,c6q4,q4,q6,q11,gM,gW,e8,z1',hw1,g1l,e5,e6,e7,hG2]
  simp only [go_sem,↓op_app,reduceCtorEq,Nat.reduceAdd,Nat.reduceSub,Nat.reduceMul,Nat.reduceEqDiff,Nat.reduceLT,Nat.reduceDiv,Nat.reduceMod,Nat.reduceLeDiff,↓reduceIte,c6q5,c6q6,q6,gO,e2,e3,e4,hw2,hG3,nilly_nili]
  refine z4 _ kn kx _ x ?_ ?_ ?_ ?_ ?_ hx
  ·simp only [go_sem,reduceCtorEq,↓reduceIte]
  ·simp only [go_sem,reduceCtorEq,↓reduceIte]
  ·simp only [go_sem,↓op_app,reduceCtorEq,Nat.reduceAdd,Nat.reduceSub,Nat.reduceMul,Nat.reduceEqDiff,Nat.reduceLT,Nat.reduceDiv,Nat.reduceMod,Nat.reduceLeDiff,↓reduceIte,E.a7]
  ·simp only [go_sem,↓op_app,reduceCtorEq,Nat.reduceAdd,Nat.reduceSub,Nat.reduceMul,Nat.reduceEqDiff,Nat.reduceLT,Nat.reduceDiv,Nat.reduceMod,Nat.reduceLeDiff,↓reduceIte,E.a2]
  ·simp only [go_sem,↓op_app,reduceCtorEq,Nat.reduceAdd,Nat.reduceSub,Nat.reduceMul,Nat.reduceEqDiff,Nat.reduceLT,Nat.reduceDiv,Nat.reduceMod,Nat.reduceLeDiff,↓reduceIte,E.a3]
 ·have hb:badC num (w0 :: l)=(stepP num (w0 :: l)).2:=by unfold badC;rw [if_pos hc]
  have e0:errV (stepP num (w0 :: l)).2 = .iface 23 (.int 3 (badC num (w0 :: l))):=by unfold errV;rw [if_neg hc,hb]
  rw [e0] at z1'
  simp only [go_sem,↓op_app,reduceCtorEq,Nat.reduceAdd,Nat.reduceSub,Nat.reduceMul,Nat.reduceEqDiff,Nat.reduceLT,Nat.reduceDiv,Nat.reduceMod,Nat.reduceLeDiff,↓reduceIte,c6q4,q4,q6,q11,gM,gW,e8,z1',hw1,g1l,e5,e6,e7,hG2]
  simp only [go_sem,↓op_app,reduceCtorEq,Nat.reduceAdd,Nat.reduceSub,Nat.reduceMul,Nat.reduceEqDiff,Nat.reduceLT,Nat.reduceDiv,Nat.reduceMod,Nat.reduceLeDiff,↓reduceIte,c6q5,c6q6,q6,gO,e2,e3,hw2,hG3,nilly_nili,nilly_iface]
  refine z4 _ kn kx _ x ?_ ?_ ?_ ?_ ?_ hx
  ·simp only [go_sem,reduceCtorEq,↓reduceIte]
  ·simp only [go_sem,reduceCtorEq,↓reduceIte]
  ·simp only [go_sem,↓op_app,reduceCtorEq,Nat.reduceAdd,Nat.reduceSub,Nat.reduceMul,Nat.reduceEqDiff,Nat.reduceLT,Nat.reduceDiv,Nat.reduceMod,Nat.reduceLeDiff,↓reduceIte,E.a7]
  ·simp only [go_sem,↓op_app,reduceCtorEq,Nat.reduceAdd,Nat.reduceSub,Nat.reduceMul,Nat.reduceEqDiff,Nat.reduceLT,Nat.reduceDiv,Nat.reduceMod,Nat.reduceLeDiff,↓reduceIte,E.a2]
  ·simp only [go_sem,↓op_app,reduceCtorEq,Nat.reduceAdd,Nat.reduceSub,Nat.reduceMul,Nat.reduceEqDiff,Nat.reduceLT,Nat.reduceDiv,Nat.reduceMod,Nat.reduceLeDiff,↓reduceIte,E.a3]
end
end Go.Ev
end
section
namespace Go.Ev
theorem parseGo_bad {num:List UInt8→Nat} {w:List UInt8} {j c a:Nat} {acc:List Stp} (h:parseGo num [w] j acc = .error (c,a)) (hacc:acc.length≤4096) :
  a=j ∧ ¬ (fieldsP w=[]∨((fieldsP w).headD []).headD 0=35)∧c=badC num (fieldsP w)∧((stepP num (fieldsP w)).2≠0∨acc.length=4096):=by
 simp only [parseGo,lineP] at h
 by_cases hc:fieldsP w=[]∨((fieldsP w).headD []).headD 0=35
 ·rw [if_pos hc] at h;cases h
 ·rw [if_neg hc] at h
  simp only [] at h
  refine ⟨?_,hc, ?_⟩
  ·split at h
   ·cases h;rfl
   ·split at h
    ·cases h;rfl
    ·cases h
  ·unfold badC
   split at h
   ·rename_i h1
    cases h
    exact ⟨by rw [if_pos h1],Or.inl h1⟩
   ·rename_i h1
    split at h
    ·rename_i h2
     cases h
     exact ⟨by rw [if_neg h1],Or.inr h2⟩
    ·cases h
theorem parseGo_fail {num:List UInt8→Nat} {ls:List (List UInt8)} {e:Nat × Nat} (h:parseGo num ls 0 [] = .error e):∀ j,(∃ acc,parseGo num (ls.take j) 0 [] = .ok acc)∨parseGo num (ls.take j) 0 [] = .error e:=fun j=>by
 rw [← List.take_append_drop j ls,parseGo_app] at h
 cases hp:parseGo num (ls.take j) 0 [] with
 | ok acc=>exact Or.inl ⟨acc,rfl⟩
 | error x=>rw [hp] at h;exact Or.inr h
section
variable {t:Nat→Option FnE} {cp:RC→CodeE} {fuel:Nat} {H:Heap} {dec:List UInt8→Nat × Nat} {num:List UInt8→Nat}
theorem parse_q3_bad (hA:t 18=some (.nat nAs)) (T:TCode t) (S:SNat t dec num) {P:PC} (kk:P.OK) {R0 E0 M m W:Nat} (re:RE P R0 E0) (k0:PR0 P R0 E0 M m) {lp:Blk} {a:Nat} {acc:List Stp} {bx:Blk} {G:Heap} (h:JG P lp (a+1) acc bx G) (ha:a<9223372036854775808) {v:V} {F:List (List UInt8)} (gW:G.get W = .cells [v]) (hWn:W<G.n) (hv:WS G v F) (hl:F.length<999999) (hx:∀ w ∈ F,w≠[]∧w.length≤16777216) (hacc:acc.length≤4096)
  (hb:¬ (F=[]∨(F.headD []).headD 0=35)) (hs:(stepP num F).2≠0∨acc.length=4096) :
  ∃ G',FG P R0 E0 lp (badC num F) a G' ∧ ∀ (d:Nat) (kn:KE) (kx:Nat→KE) (e:Env) (x:R),PE P R0 E0 M W e→(∀ e',kx 0 e' G'=x)→evC c6q3 fuel (evP cp t fuel (d+3)) e G kn kx=x:=by
 cases F with
 | nil=>exact absurd (Or.inl rfl) hb
 | cons w0 l=>
  obtain ⟨b0,w',rfl⟩:∃ b0 w',w0=b0 :: w':=by
   cases w0 with
   | nil=>exact absurd rfl (hx _ (List.mem_cons_self ..)).1
   | cons b0 w'=>exact ⟨b0,w',rfl⟩
  rcases hv with ⟨_,hv⟩ | ⟨_,b,o,c,s,row,rfl,g2,g3,g4,g5⟩
  ·cases hv
  have hv:WS G (.slice b o ((b0 :: w') :: l).length c s) ((b0 :: w') :: l):=Or.inr ⟨by simp,b,o,c,s,row,rfl,g2,g3,g4,g5⟩
  have e8:∀ {id:Nat} {x:R},isOne id (V.slice b o ((b0 :: w') :: l).length c s) x=x:=fun {id x}=>hv.one
  have e4:∀ {id:Nat} {f:V→R},nth id row o f=f (tv (b0 :: w')):=fun {id f}=>nth_get (by simpa using g5 0 _ rfl)
  have l1:l.length+1<9223372036854775808:=by simp only [List.length_cons] at hl;omega
  have l2:¬ l.length+1=0:=by omega
  have l3:0<l.length+1:=by omega
  have l4:0<w'.length+1:=by omega
  have hE:enc (b0 :: w') >>> 0 &&& 255=b0.toNat:=by
   have:=enc_at (b0 :: w') 0 (by simp)
   simpa using this
  have hb1:¬ b0.toNat=35:=fun h=>hb (Or.inr (show b0=35 from UInt8.toNat_inj.1 h))
  have hb2:(b0.toNat=35)=False:=eq_false hb1
  obtain ⟨G',h',z'⟩:=parse_q4_bad (cp:=cp) (fuel:=fuel) hA T S kk re k0 h ha gW hWn hv (by simp only [List.length_cons] at hl;omega) (fun w hw=>(hx w hw).2) hs hacc
  refine ⟨G',h',fun d kn kx e x E hx => ?_⟩
  have q11:=E.a11
  simp only [List.length_cons] at gW
  simp only [go_sem,↓op_app,reduceCtorEq,Nat.reduceAdd,Nat.reduceSub,Nat.reduceMul,Nat.reduceEqDiff,Nat.reduceLT,Nat.reduceDiv,Nat.reduceMod,Nat.reduceLeDiff,↓reduceIte,c6q3,q11,gW,l1,l2,l3,g3,e4,isOne_tv,vStr_tv,l4,hE,hb2]
  refine z' d kn kx _ x ⟨?_, ?_, ?_, ?_, ?_, ?_⟩ hx
  ·simp only [go_sem,↓op_app,reduceCtorEq,Nat.reduceAdd,Nat.reduceSub,Nat.reduceMul,Nat.reduceEqDiff,Nat.reduceLT,Nat.reduceDiv,Nat.reduceMod,Nat.reduceLeDiff,↓reduceIte,E.a2]
  ·simp only [go_sem,↓op_app,reduceCtorEq,Nat.reduceAdd,Nat.reduceSub,Nat.reduceMul,Nat.reduceEqDiff,Nat.reduceLT,Nat.reduceDiv,Nat.reduceMod,Nat.reduceLeDiff,↓reduceIte,E.a3]
  ·simp only [go_sem,↓op_app,reduceCtorEq,Nat.reduceAdd,Nat.reduceSub,Nat.reduceMul,Nat.reduceEqDiff,Nat.reduceLT,Nat.reduceDiv,Nat.reduceMod,Nat.reduceLeDiff,↓reduceIte,E.a4]
  ·simp only [go_sem,↓op_app,reduceCtorEq,Nat.reduceAdd,Nat.reduceSub,Nat.reduceMul,Nat.reduceEqDiff,Nat.reduceLT,Nat.reduceDiv,Nat.reduceMod,Nat.reduceLeDiff,↓reduceIte,E.a6]
  ·simp only [go_sem,↓op_app,reduceCtorEq,Nat.reduceAdd,Nat.reduceSub,Nat.reduceMul,Nat.reduceEqDiff,Nat.reduceLT,Nat.reduceDiv,Nat.reduceMod,Nat.reduceLeDiff,↓reduceIte,E.a7]
  ·simp only [go_sem,↓op_app,reduceCtorEq,Nat.reduceAdd,Nat.reduceSub,Nat.reduceMul,Nat.reduceEqDiff,Nat.reduceLT,Nat.reduceDiv,Nat.reduceMod,Nat.reduceLeDiff,↓reduceIte,E.a11]
theorem parse_round_bad (hA:t 18=some (.nat nAs)) (T:TCode t) (S:SNat t dec num) (C:CPs cp) (hfu:1000001<fuel) {P:PC} (kk:P.OK) {R0 E0 M m:Nat} (re:RE P R0 E0) (k0:PR0 P R0 E0 M m) (he:PE0 P R0 E0 M P.e0) {j:Nat} {acc:List Stp} {bx:Blk} {G:Heap} (h:JG P (lpS P 0 0) j acc bx G) {s:List UInt8} (hs:s.length<999990) (hj:j<1000000000) (hacc:acc.length≤4096)
  (hb:¬ (fieldsP s=[]∨((fieldsP s).headD []).headD 0=35)) (hbad:(stepP num (fieldsP s)).2≠0∨acc.length=4096) :
  ∃ G',FG P R0 E0 (lpS P 2 1) (badC num (fieldsP s)) j G' ∧ ∀ (d:Nat) (k:K),callP (evP cp t fuel (d+4)) (.yld P.y) [tv s] G k=k (.bool false) G':=by
 have hw:=h.f.wf
 have hn:=h.n
 have ly:=kk.ly
 have lT:=kk.lT
 have hyG:P.y<G.n:=by omega
 generalize hG1:G.put P.y (lpS P 1 0)=G1
 have h1:JG P (lpS P 1 0) j acc bx G1:=by rw [← hG1];exact h.putY kk
 have hw1:=h1.f.wf
 have g1n:G1.n=G.n:=by rw [← hG1,Heap.n_put]
 generalize hG2:G1.new (.cells [.nils])=G2
 have f2:Fresh G1 G2:=by rw [← hG2];exact Fresh.new hw1
 have g2n:G2.n=G1.n+1:=by rw [← hG2,Heap.n_new]
 have g2W:G2.get G1.n = .cells [.nils]:=by rw [← hG2,Heap.get_new hw1,if_pos rfl]
 generalize he2:pset ⟨.i0, .i1, .i0⟩ (tv s) (pset ⟨.i0, .i2, .i4⟩ (tv s) P.e0)=e2
 generalize he3:pset ⟨.i0, .i1, .i1⟩ (.ptr G1.n 0) e2=e3
 obtain ⟨fl,fx⟩:=fields_len s []
 obtain ⟨G3,v,f3,n3,o3,g3W,hv3,off3,z3⟩:=words_run (cp:=cp) (t:=t) (fuel:=fuel) (e:=e3) T S C.na C.nb hfu hs f2 (Nat.le_refl _) (by omega) g2W (by rw [← he3,← he2];simp only [go_sem,↓op_app,reduceCtorEq,Nat.reduceAdd,Nat.reduceSub,Nat.reduceMul,Nat.reduceEqDiff,Nat.reduceLT,Nat.reduceDiv,Nat.reduceMod,Nat.reduceLeDiff,↓reduceIte]) (by rw [← he3];simp only [go_sem,↓op_app,reduceCtorEq,Nat.reduceAdd,Nat.reduceSub,Nat.reduceMul,Nat.reduceEqDiff,Nat.reduceLT,Nat.reduceDiv,Nat.reduceMod,Nat.reduceLeDiff,↓reduceIte])
 have h3:=h1.fresh kk f3
 have hw3:=f3.wf
 have hT3:P.T<G3.n:=by omega
 have g3T:=h3.at_
 generalize hG4:G3.put P.T (.cells [.int 3 (j+1)])=G4
 have h4:JG P (lpS P 1 0) (j+1) acc bx G4:=by rw [← hG4];exact h3.putT kk
 have g4n:G4.n=G3.n:=by rw [← hG4,Heap.n_put]
 have g4W:G4.get G1.n = .cells [v]:=by rw [← hG4,Heap.get_put hw3 hT3,if_neg (by omega)];exact g3W
 have hv4:WS G4 v (fieldsP s):=by rw [← hG4];exact hv3.put hw3 hT3 (off3 _ (by omega))
 have fl1:(fieldsP s).length<999999:=by show (fieldsGo s []).length<_;omega
 obtain ⟨G5,h5,z5⟩:=parse_q3_bad (cp:=cp) (fuel:=fuel) (W:=G1.n) hA T S kk re k0 h4 (by omega) g4W (by omega) hv4 fl1 (fun w hw=>⟨(fx w hw).1,by have:=(fx w hw).2;simp at this;omega⟩) hacc hb hbad
 have e1:(j+1) % 18446744073709551616=j+1:=by omega
 refine ⟨G5.put P.y (lpS P 2 1),h5.putY kk re,fun d k => ?_⟩
 rw [callP_yld]
 refine evY_outC (n:=0) (e1:=pset ⟨.i0, .i2, .i4⟩ (tv s) P.e0) (e2:=e2) (H2:=G) h.lp (fun f=>by simp only [go_sem,reduceCtorEq,↓reduceIte]) (fun kn kx => ?_) h.lp hw hyG (fun kn kx x hx => ?_) h5.lp h5.f.wf (by have:=h5.n;omega)
 ·rw [C.a]
  simp only [go_sem,↓op_app,reduceCtorEq,Nat.reduceAdd,Nat.reduceSub,Nat.reduceMul,Nat.reduceEqDiff,Nat.reduceLT,Nat.reduceDiv,Nat.reduceMod,Nat.reduceLeDiff,↓reduceIte,c6a,he2]
 ·rw [C.b]
  have hG1':G.put P.y (.loop 1 0 P.e0 [⟨.i0, .i2, .i4⟩] r6.1 r6.2)=G1:=hG1
  rw [hG1']
  simp only [go_sem,↓op_app,reduceCtorEq,Nat.reduceAdd,Nat.reduceSub,Nat.reduceMul,Nat.reduceEqDiff,Nat.reduceLT,Nat.reduceDiv,Nat.reduceMod,Nat.reduceLeDiff,↓reduceIte,c6b,hw1,he3,hG2]
  refine z3 d _ _ x ?_
  have q7:pget ⟨.i0, .i0, .i7⟩ e3 = .ptr P.T 0:=by rw [← he3,← he2];simp only [go_sem,↓op_app,reduceCtorEq,Nat.reduceAdd,Nat.reduceSub,Nat.reduceMul,Nat.reduceEqDiff,Nat.reduceLT,Nat.reduceDiv,Nat.reduceMod,Nat.reduceLeDiff,↓reduceIte,he.a7]
  simp only [go_sem,↓op_app,reduceCtorEq,Nat.reduceAdd,Nat.reduceSub,Nat.reduceMul,Nat.reduceEqDiff,Nat.reduceLT,Nat.reduceDiv,Nat.reduceMod,Nat.reduceLeDiff,↓reduceIte,c6q2,q7,g3T,e1,hw3,hT3,hG4]
  refine z5 d _ _ _ x ⟨?_, ?_, ?_, ?_, ?_, ?_⟩ (fun e' => ?_)
  ·simp only [go_sem,↓op_app,reduceCtorEq,Nat.reduceAdd,Nat.reduceSub,Nat.reduceMul,Nat.reduceEqDiff,Nat.reduceLT,Nat.reduceDiv,Nat.reduceMod,Nat.reduceLeDiff,↓reduceIte,← he3,← he2,he.a2]
  ·simp only [go_sem,↓op_app,reduceCtorEq,Nat.reduceAdd,Nat.reduceSub,Nat.reduceMul,Nat.reduceEqDiff,Nat.reduceLT,Nat.reduceDiv,Nat.reduceMod,Nat.reduceLeDiff,↓reduceIte,← he3,← he2,he.a3]
  ·simp only [go_sem,↓op_app,reduceCtorEq,Nat.reduceAdd,Nat.reduceSub,Nat.reduceMul,Nat.reduceEqDiff,Nat.reduceLT,Nat.reduceDiv,Nat.reduceMod,Nat.reduceLeDiff,↓reduceIte,← he3,← he2,he.a4]
  ·simp only [go_sem,↓op_app,reduceCtorEq,Nat.reduceAdd,Nat.reduceSub,Nat.reduceMul,Nat.reduceEqDiff,Nat.reduceLT,Nat.reduceDiv,Nat.reduceMod,Nat.reduceLeDiff,↓reduceIte,← he3,← he2,he.a6]
  ·simp only [go_sem,↓op_app,reduceCtorEq,Nat.reduceAdd,Nat.reduceSub,Nat.reduceMul,Nat.reduceEqDiff,Nat.reduceLT,Nat.reduceDiv,Nat.reduceMod,Nat.reduceLeDiff,↓reduceIte,← he3,← he2,he.a7]
  ·simp only [go_sem,↓op_app,reduceCtorEq,Nat.reduceAdd,Nat.reduceSub,Nat.reduceMul,Nat.reduceEqDiff,Nat.reduceLT,Nat.reduceDiv,Nat.reduceMod,Nat.reduceLeDiff,↓reduceIte,← he3]
  ·exact hx e'
theorem parse_loop_bad (hA:t 18=some (.nat nAs)) (T:TCode t) (S:SNat t dec num) (C:CPs cp) (hfu:1000001<fuel) {P:PC} (kk:P.OK) {R0 E0 M m A Cc:Nat} (re:RE P R0 E0) (k0:PR0 P R0 E0 M m) (he:PE0 P R0 E0 M P.e0) {s:List UInt8} (hs:s.length<999990) {c a:Nat} (ho:parseGo num (linesP s) 0 [] = .error (c,a))
  (hf:Fresh P.H P.Hb) (hl:P.Hb.get P.y=lpS P 0 0) (hT:P.Hb.get P.T = .cells [.int 3 0]) (hO:P.Hb.get P.O = .cells [.nils]) (hB:P.Hb.get P.B = .cells [tv s])
  (hA':P.Hb.get A = .cells [tv [10]]) (hC:P.Hb.get Cc = .cells [.int 3 0]) (nA:A<P.Hb.n∧A≠P.O∧A≠P.T∧A≠P.B∧A≠P.y) (nC:Cc<P.Hb.n∧Cc≠P.O∧Cc≠P.T∧Cc≠P.B∧Cc≠P.y) :
  ∃ G,FG P R0 E0 (lpS P 2 1) c a G ∧ ∀ (d:Nat) (k:K),callP (evP cp t fuel (d+5)) (.func 76 [.ptr A 0, .ptr P.B 0, .ptr Cc 0]) [.yld P.y] P.Hb k=k (.tup []) G:=by
 have lines:=lines_len s
 have L:LI cp t fuel s P.B A Cc P.y 3 (fun j G => ∃ acc bx,parseGo num ((linesP s).take j) 0 [] = .ok acc∧acc.length≤4096∧JG P (lpS P 0 0) j acc bx G) (fun _ G=>FG P R0 E0 (lpS P 2 1) c a G):=by
  refine ⟨fun j G ⟨acc,bx,h1,h2,h3⟩=>⟨(h3.same A nA.1 nA.2.1 nA.2.2.1 nA.2.2.2.1 nA.2.2.2.2).trans hA',(h3.same Cc nC.1 nC.2.1 nC.2.2.1 nC.2.2.2.1 nC.2.2.2.2).trans hC,h3.f.wf,by have:=h3.n;have:=kk.lB;omega⟩,
   fun j G x ⟨acc,bx,h1,h2,h3⟩=>⟨acc,x,h1,h2,h3.putB kk⟩,
   fun j G x ⟨acc,bx,h1,h2,h3⟩=>(h3.putB kk (x:=x)).bB,
   fun j w G hw ⟨acc,bx,h1,h2,h3⟩ => ?_⟩
  have h5:=parseGo_next hw h1
  have hjl:j < (linesP s).length:=by
   rcases Nat.lt_or_ge j (linesP s).length with h | h
   ·exact h
   ·rw [List.getElem?_eq_none h] at hw;cases hw
  have hwl:=lines.2 w (List.mem_of_getElem? hw)
  rcases parseGo_fail ho (j+1) with ⟨acc',h4⟩ | h4
  ·rw [h4] at h5
   obtain ⟨G',g1,g2⟩:=parse_round (cp:=cp) (t:=t) (fuel:=fuel) T S C hfu kk k0 he h3 (s:=w) (by omega) (by omega) h2 (parseGo_one h5.symm h2)
   exact Or.inl ⟨G',⟨acc',bx,h4,parseGo_len num _ _ _ _ (by simp) h4,g1⟩,g1.bB.trans h3.bB.symm,fun d k=>g2 d k⟩
  ·rw [h4] at h5
   obtain ⟨rfl,b1,rfl,b2⟩:=parseGo_bad h5.symm h2
   obtain ⟨G',g1,g2⟩:=parse_round_bad (cp:=cp) (t:=t) (fuel:=fuel) hA T S C hfu kk re k0 he h3 (s:=w) (by omega) (by omega) h2 b1 b2
   exact Or.inr ⟨G',g1,fun d k=>g2 d k⟩
 have h0:JG P (lpS P 0 0) 0 [] (.cells [tv s]) P.Hb:=⟨hf,Nat.le_refl _,fun _ _ _ _ _ _=>rfl,hl,hT,hB, .nils,hO,Gr.nils,fun i _ b o n c s h=>by cases h⟩
 obtain ⟨G,hG,z⟩:=lines_call (cp:=cp) (fuel:=fuel) T S L hfu (by omega) ⟨[],_,by rw [List.take_zero];rfl,by simp,h0⟩ hB
 rcases hG with ⟨i,hG,_⟩ | ⟨acc,bx,g1,g2,g3⟩
 ·exact ⟨G,hG,fun d k=>z d k⟩
 ·rw [List.take_length,ho] at g1
  cases g1
theorem parse_bad (hA:t 18=some (.nat nAs)) (T:TCode t) (S:SNat t dec num) (C:CPs cp) (hw:H.wf) (hfu:1000001<fuel) {s:List UInt8} (hs:s.length<999990) {c a:Nat} (ho:parseGo num (linesP s) 0 [] = .error (c,a)) :
  ∃ G q,Fresh H G∧H.n≤q∧q<G.n∧G.get q = .cells [.int 3 c, .int 3 a] ∧ ∀ (d:Nat) (k:K),callP (evP cp t fuel (d+6)) (.func 12 []) [tv s] H k=k (.tup [.nils, .iface 61 (.ptr q 0)]) G:=by
 obtain ⟨P,Hc,M,m,B,z⟩:=parse_pre (cp:=cp) (t:=t) (fuel:=fuel) T hw hfu s
 have kk:=B.ok
 have hy:=B.y
 have hn:=B.n
 have lo:=B.lo
 have re:RE P H.n (H.n+1):=⟨by rw [B.pH];exact Nat.le_refl _,by rw [B.pH];omega,by omega,by omega,by omega,by omega,by omega,by omega,by omega,by omega,by omega,by omega,by omega,B.zr0,B.e0⟩
 obtain ⟨G,h,zl⟩:=parse_loop_bad (cp:=cp) (t:=t) (fuel:=fuel) (A:=P.B+1) (Cc:=P.B+1+1) hA T S C hfu kk re B.k0 B.he hs ho (by rw [B.pH];exact B.f) B.lp B.T B.O B.B B.A B.C (by omega) (by omega)
 have ly:P.y<G.n:=by have:=h.n;omega
 obtain ⟨hf,hG,h3,h4,q,h5,h6,h7,h8⟩:=h.putY kk re (lp':=lpS P 3 1)
 rw [B.pH] at hf
 have hfn:=B.f.n
 refine ⟨_,q,hf,by omega,h8,h6,fun d k => ?_⟩
 refine z d k _ fun kn kx hkn hkx => ?_
 have hz:∀ k:K,callP (evP cp t fuel (d+5)) (.func 76 [.ptr (P.B+1) 0, .ptr P.B 0, .ptr (P.B+1+1) 0]) [.yld (Hc.n+1)] ((Hc.new .mark).new (.loop 0 0 P.e0 [⟨.i0, .i2, .i4⟩] r6.1 r6.2)) k=k (.tup []) G:=fun k=>by
  have h1:=zl d k
  rw [B.hb,show P.y=Hc.n+1 by rw [B.cn];exact hy] at h1
  exact h1
 have hwG:=h.f.wf
 rw [evC_rangeF_out (n:=0) B.cw B.g23 rfl hz (by rw [show Hc.n+1=P.y by rw [B.cn];exact hy.symm];exact h.lp) hwG (by rw [show Hc.n+1=P.y by rw [B.cn];exact hy.symm];exact ly),hkx]
 rw [show Hc.n+1=P.y by rw [B.cn];exact hy.symm]
 have q2:=B.he.a2
 have q3:=B.he.a3
 have h4':(G.put P.y (.loop 3 (0+1) P.e0 [⟨.i0, .i2, .i4⟩] r6.1 r6.2)).get H.n = .cells [.nils]:=h4
 have h5':(G.put P.y (.loop 3 (0+1) P.e0 [⟨.i0, .i2, .i4⟩] r6.1 r6.2)).get (H.n+1) = .cells [.iface 61 (.ptr q 0)]:=h5
 rw [retF_11,q2,q3]
 generalize G.put P.y (.loop 3 (0+1) P.e0 [⟨.i0, .i2, .i4⟩] r6.1 r6.2)=G9 at h4' h5'
 simp only [go_sem,↓op_app,reduceCtorEq,Nat.reduceAdd,Nat.reduceSub,Nat.reduceMul,Nat.reduceEqDiff,Nat.reduceLT,Nat.reduceDiv,Nat.reduceMod,Nat.reduceLeDiff,↓reduceIte,h4',h5',isOne_iface]
end
end Go.Ev
end
section
namespace Go.Ev
theorem mayS_ok {s:Stp} (h:mayS s=true):StOK s:=by
 obtain ⟨r,hr,hm,_,D⟩:=mayS_row h
 have hk:s.k<12:=by
  have:=(List.getElem?_eq_some_iff.1 hr).1
  exact this
 have ha:=D.a
 refine ⟨by omega,by omega, ?_, ?_⟩
 ·by_cases hb:r.b=neg1
  ·rw [D.b0 hb];decide
  ·have:=D.b hb;omega
 ·by_cases hd:r.d=true
  ·have:=(D.d hd).2.2;omega
  ·rw [D.d0 hd];decide
section
variable {t:Nat→Option FnE} {cp:RC→CodeE} {fuel:Nat} {H:Heap} {dec:List UInt8→Nat × Nat} {num:List UInt8→Nat}
theorem backX_run (hA:t 18=some (.nat nAs)) (T:TCode t) (S:SNat t dec num) (C:CPs cp) (hp:t 5=some (.nat nPrint)) (hwk:t 8=some (.nat nWorks)) (hw:H.wf) (hfu:1000001<fuel) {s:List UInt8} (hs:s.length<9223372036854775808) :
  ∃ G,Fresh H G ∧ ∀ (d:Nat) (kn:KE) (kx:Nat→KE) (e:Env) (x:R),pget ⟨.i0, .i0, .i1⟩ e=tv s→(∀ e',pget ⟨.i0, .i0, .i4⟩ e' = .bool true→kx 0 e' G=x)→evC c3r4 fuel (evP cp t fuel (d+6)) e H kn kx=x:=by
 have d2:nn s.length:=hs
 have d3:min s.length 5000<9223372036854775808:=by omega
 have d4:min s.length 5000≤s.length:=by omega
 have eS:V.str (min s.length 5000-0) (enc s >>> 0 % 256 ^ (min s.length 5000-0))=tv (s.take (min s.length 5000)):=by
  show V.str (min s.length 5000-0) (enc s >>> (8 * 0) % 256 ^ (min s.length 5000-0))=_
  rw [str_sl (Nat.zero_le _) d4,List.drop_zero,Nat.sub_zero]
 have hs2:(s.take (min s.length 5000)).length<999990:=by rw [List.length_take];omega
 generalize s.take (min s.length 5000)=s2 at eS hs2
 cases hpg:parseGo num (linesP s2) 0 [] with
 | error ca=>
  obtain ⟨c,a⟩:=ca
  obtain ⟨G,q,f,_,_,_,z1⟩:=parse_bad (cp:=cp) (fuel:=fuel) hA T S C hw hfu hs2 hpg
  have z2:=fun {d:Nat} {k:K}=>works_call (cp:=cp) (fuel:=fuel) (d:=d) (k:=k) (G:=G) hwk
  refine ⟨G,f,fun d kn kx e x h1 hx => ?_⟩
  have z1':=fun {k:K}=>z1 d k
  simp only [go_sem,↓op_app,reduceCtorEq,Nat.reduceAdd,Nat.reduceSub,Nat.reduceMul,Nat.reduceEqDiff,Nat.reduceLT,Nat.reduceDiv,Nat.reduceMod,Nat.reduceLeDiff,↓reduceIte,c3r4,c3r5,h1,vStr_tv,hs,d2,d3,d4,eS,z1',nilly_iface,nilly_nili,z2]
  exact hx _ (by simp only [go_sem,reduceCtorEq,↓reduceIte])
 | ok out=>
  obtain ⟨G1,v1,f1,gv1,z1⟩:=parse_ok (cp:=cp) (fuel:=fuel) T S C hw hfu hs2 hpg
  have hmay:=parseGo_may _ _ _ _ (by simp) hpg
  have hlen:=parseGo_len num _ _ _ _ (by simp) hpg
  have hst1:=gv1.stAt
  have hpr:=fun {d:Nat} {k:K}=>print_call (cp:=cp) (fuel:=fuel) (d:=d) (k:=k) hp hst1 (by omega) (fun s hs=>mayS_ok (hmay s hs))
  rw [printP_ok hmay (by omega)] at hpr
  have hll:=lines_lenP out hmay
  have hpl:=parse_lines S.nok out 0 [] hmay (by simp;omega)
  rw [List.nil_append] at hpl
  obtain ⟨G2,v2,f2,gv2,z2⟩:=parse_ok (cp:=cp) (fuel:=fuel) T S C f1.wf hfu (by omega) hpl
  have z3:=fun {d:Nat} {k:K}=>alike_call (cp:=cp) (fuel:=fuel) T f2.wf (hst1.fresh f2) gv2.stAt (by omega) (by omega) hfu d k
  rw [decide_eq_true rfl] at z3
  have z4:=fun {d:Nat} {k:K}=>works_call (cp:=cp) (fuel:=fuel) (d:=d) (k:=k) (G:=G2) hwk
  refine ⟨G2,f1.trans f2,fun d kn kx e x h1 hx => ?_⟩
  have z1':=fun {k:K}=>z1 d k
  have z2':=fun {k:K}=>z2 d k
  simp only [go_sem,↓op_app,reduceCtorEq,Nat.reduceAdd,Nat.reduceSub,Nat.reduceMul,Nat.reduceEqDiff,Nat.reduceLT,Nat.reduceDiv,Nat.reduceMod,Nat.reduceLeDiff,↓reduceIte,c3r4,c3r5,h1,vStr_tv,hs,d2,d3,d4,eS,z1',nilly_iface,nilly_nili]
  simp only [go_sem,↓op_app,reduceCtorEq,Nat.reduceAdd,Nat.reduceSub,Nat.reduceMul,Nat.reduceEqDiff,Nat.reduceLT,Nat.reduceDiv,Nat.reduceMod,Nat.reduceLeDiff,↓reduceIte,c3r6,c3r7,hpr,z2']
  simp only [go_sem,↓op_app,reduceCtorEq,Nat.reduceAdd,Nat.reduceSub,Nat.reduceMul,Nat.reduceEqDiff,Nat.reduceLT,Nat.reduceDiv,Nat.reduceMod,Nat.reduceLeDiff,↓reduceIte,c3r8,c3r9,nilly_iface,nilly_nili,z3,z4]
  exact hx _ (by simp only [go_sem,reduceCtorEq,↓reduceIte])
theorem backT_run (hA:t 18=some (.nat nAs)) (T:TCode t) (S:SNat t dec num) (C:CPs cp) (hp:t 5=some (.nat nPrint)) (hwk:t 8=some (.nat nWorks)) (hw:H.wf) (hfu:1000001<fuel) {v:V} {l:List Stp} (hl:StAt H v l) (hn:l.length≤100) (hok:∀ s ∈ l,StOK s) {s:List UInt8} (hs:s.length<9223372036854775808) :
  ∃ G,Fresh H G ∧ ∀ (d:Nat) (kn:KE) (kx:Nat→KE) (e:Env) (x:R),pget ⟨.i0, .i0, .i0⟩ e=v→pget ⟨.i0, .i0, .i1⟩ e=tv s→(∀ e',pget ⟨.i0, .i0, .i4⟩ e' = .bool true→kx 0 e' G=x)→evC c3r2 fuel (evP cp t fuel (d+6)) e H kn kx=x:=by
 have hpr:=fun {d:Nat} {k:K}=>print_call (cp:=cp) (fuel:=fuel) (d:=d) (k:=k) hp hl (by omega) hok
 by_cases hall:∀ s ∈ l,mayS s=true
 ·rw [printP_ok hall (by omega)] at hpr
  have hll:=lines_lenP l hall
  have hpl:=parse_lines S.nok l 0 [] hall (by simp;omega)
  rw [List.nil_append] at hpl
  obtain ⟨G1,v1,f1,gv1,z1⟩:=parse_ok (cp:=cp) (fuel:=fuel) T S C hw hfu (by omega) hpl
  have z3:=fun {d:Nat} {k:K}=>alike_call (cp:=cp) (fuel:=fuel) T f1.wf (hl.fresh f1) gv1.stAt (by omega) (by omega) hfu d k
  rw [decide_eq_true rfl] at z3
  obtain ⟨G2,f2,z4⟩:=backX_run (cp:=cp) (fuel:=fuel) hA T S C hp hwk f1.wf hfu hs
  refine ⟨G2,f1.trans f2,fun d kn kx e x h0 h1 hx => ?_⟩
  have z1':=fun {k:K}=>z1 d k
  simp only [go_sem,↓op_app,reduceCtorEq,Nat.reduceAdd,Nat.reduceSub,Nat.reduceMul,Nat.reduceEqDiff,Nat.reduceLT,Nat.reduceDiv,Nat.reduceMod,Nat.reduceLeDiff,↓reduceIte,c3r2,h0,hpr]
  simp only [go_sem,↓op_app,reduceCtorEq,Nat.reduceAdd,Nat.reduceSub,Nat.reduceMul,Nat.reduceEqDiff,Nat.reduceLT,Nat.reduceDiv,Nat.reduceMod,Nat.reduceLeDiff,↓reduceIte,c3r3,h0,z1',z3,nilly_iface,nilly_nili]
  exact z4 d kn kx _ x (by simp only [go_sem,reduceCtorEq,↓reduceIte,h1]) hx
 ·have hbad:∃ s ∈ l,mayS s≠true:=by
   refine Classical.byContradiction fun h=>hall fun s hs=>Classical.byContradiction fun h2=>h ⟨s,hs,h2⟩
  rw [printP_bad hbad (by omega)] at hpr
  obtain ⟨G2,f2,z4⟩:=backX_run (cp:=cp) (fuel:=fuel) hA T S C hp hwk hw hfu hs
  refine ⟨G2,f2,fun d kn kx e x h0 h1 hx => ?_⟩
  simp only [go_sem,↓op_app,reduceCtorEq,Nat.reduceAdd,Nat.reduceSub,Nat.reduceMul,Nat.reduceEqDiff,Nat.reduceLT,Nat.reduceDiv,Nat.reduceMod,Nat.reduceLeDiff,↓reduceIte,c3r2,h0,hpr]
  simp only [go_sem,↓op_app,reduceCtorEq,Nat.reduceAdd,Nat.reduceSub,Nat.reduceMul,Nat.reduceEqDiff,Nat.reduceLT,Nat.reduceDiv,Nat.reduceMod,Nat.reduceLeDiff,↓reduceIte,c3r3,tv_nil]
  exact z4 d kn kx _ x (by simp only [go_sem,reduceCtorEq,↓reduceIte,h1]) hx
theorem back_law (hA:t 18=some (.nat nAs)) (T:TCode t) (S:SNat t dec num) (C:CPs cp) (hp:t 5=some (.nat nPrint)) (hwk:t 8=some (.nat nWorks)) (hw:H.wf) (hfu:1000001<fuel) {v:V} {l:List Stp} (hl:StAt H v l) (hv:(v = .nils∧l=[]) ∨ ∃ b o c z,v = .slice b o l.length c z∧l.length+1≤c) (hb:l.length<9223372036854775808) (hok:∀ s ∈ l,StOK s) {s:List UInt8} (hs:s.length<9223372036854775808) :
  ∃ G,Fresh H G ∧ ∀ (d:Nat) (k:K),callP (evP cp t fuel (d+7)) (.func 6 []) [v,tv s] H k=k (.bool true) G:=by
 rcases hv with ⟨rfl,rfl⟩ | ⟨b,o,c,z,rfl,hc⟩
 ·obtain ⟨G,f,z1⟩:=backT_run (cp:=cp) (fuel:=fuel) hA T S C hp hwk hw hfu hl (by simp) (by simp) hs
  refine ⟨G,f,fun d k => ?_⟩
  rw [call_entry T.k3 rfl rfl]
  have mm0:mmN false 9223372036854775808 18446744073709551616 0 100=0:=by decide
  simp only [go_sem,↓op_app,reduceCtorEq,Nat.reduceAdd,Nat.reduceSub,Nat.reduceMul,Nat.reduceEqDiff,Nat.reduceLT,Nat.reduceDiv,Nat.reduceMod,Nat.reduceLeDiff,↓reduceIte,c3,c3r1,mm0]
  refine z1 d _ _ _ _ (by simp only [go_sem,reduceCtorEq,↓reduceIte]) (by simp only [go_sem,reduceCtorEq,↓reduceIte]) fun e' h2 => ?_
  simp only [go_sem,↓op_app,reduceCtorEq,Nat.reduceAdd,Nat.reduceSub,Nat.reduceMul,Nat.reduceEqDiff,Nat.reduceLT,Nat.reduceDiv,Nat.reduceMod,Nat.reduceLeDiff,↓reduceIte,h2]
 ·have nl:nn l.length:=hb
  have n60:min l.length 100<9223372036854775808:=by omega
  have zc0:¬ c=0:=by omega
  have zc1:min l.length 100≤c-1:=by omega
  have hq:min l.length 100≤l.length:=by omega
  have htl:(l.take (min l.length 100)).length=min l.length 100:=by rw [List.length_take];omega
  by_cases hc0:c-1=0
  ·have hl0:l=[]:=List.eq_nil_of_length_eq_zero (by omega)
   subst hl0
   obtain ⟨G,f,z1⟩:=backT_run (cp:=cp) (fuel:=fuel) (v := .slice b o 0 1 0) (l:=[]) hA T S C hp hwk hw hfu (Or.inl ⟨Or.inr ⟨_,_,_,_,rfl⟩,rfl⟩) (by simp) (by simp) hs
   refine ⟨G,f,fun d k => ?_⟩
   have hc1:=eq_true hc0
   have mm0:mmN false 9223372036854775808 18446744073709551616 0 100=0:=by decide
   rw [call_entry T.k3 rfl rfl]
   simp only [go_sem,↓op_app,reduceCtorEq,Nat.reduceAdd,Nat.reduceSub,Nat.reduceMul,Nat.reduceEqDiff,Nat.reduceLT,Nat.reduceDiv,Nat.reduceMod,Nat.reduceLeDiff,↓reduceIte,c3,c3r1,mm0,zc0,hc1]
   refine z1 d _ _ _ _ (by simp only [go_sem,reduceCtorEq,↓reduceIte]) (by simp only [go_sem,reduceCtorEq,↓reduceIte]) fun e' h2 => ?_
   simp only [go_sem,↓op_app,reduceCtorEq,Nat.reduceAdd,Nat.reduceSub,Nat.reduceMul,Nat.reduceEqDiff,Nat.reduceLT,Nat.reduceDiv,Nat.reduceMod,Nat.reduceLeDiff,↓reduceIte,h2]
  ·have hv1:=hl.take hq (c-1+1) 0
   obtain ⟨G,f,z1⟩:=backT_run (cp:=cp) (fuel:=fuel) (v := .slice b o (min l.length 100) (c-1+1) 0) (l:=l.take (min l.length 100)) hA T S C hp hwk hw hfu hv1 (by rw [htl];omega) (fun s hs=>hok s (List.mem_of_mem_take hs)) hs
   refine ⟨G,f,fun d k => ?_⟩
   rw [call_entry T.k3 rfl rfl]
   simp only [go_sem,↓op_app,reduceCtorEq,Nat.reduceAdd,Nat.reduceSub,Nat.reduceMul,Nat.reduceEqDiff,Nat.reduceLT,Nat.reduceDiv,Nat.reduceMod,Nat.reduceLeDiff,↓reduceIte,c3,c3r1,nl,hb,n60,zc0,zc1,hc0]
   refine z1 d _ _ _ _ (by simp only [go_sem,↓op_app,reduceCtorEq,Nat.reduceAdd,Nat.reduceSub,Nat.reduceMul,Nat.reduceEqDiff,Nat.reduceLT,Nat.reduceDiv,Nat.reduceMod,Nat.reduceLeDiff,↓reduceIte,Nat.sub_zero]) (by simp only [go_sem,reduceCtorEq,↓reduceIte]) fun e' h2 => ?_
   simp only [go_sem,↓op_app,reduceCtorEq,Nat.reduceAdd,Nat.reduceSub,Nat.reduceMul,Nat.reduceEqDiff,Nat.reduceLT,Nat.reduceDiv,Nat.reduceMod,Nat.reduceLeDiff,↓reduceIte,h2]
end
end Go.Ev
end
