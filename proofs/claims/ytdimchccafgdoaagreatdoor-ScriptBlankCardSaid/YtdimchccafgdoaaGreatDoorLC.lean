/- LC: a part of the evaluator,of its logic,or of the laws' walk in it. -/
import Derived.Test.YtdimchccafgdoaaGreatDoorLB
set_option linter.unusedVariables false
set_option linter.unusedSimpArgs false
set_option linter.unusedSectionVars false
section
namespace Go.Ev
open Go.RowKit
def lineOf (s:Stp):List UInt8:=match kindsT[s.k]? with
 | none => []
 | some r=>r.w ++ (32 :: decD s.a) ++ (if r.b=neg1 then [] else 32 :: decD s.b) ++ (if r.d=true then 32 :: s.d else []) ++ [10]
def mayS (s:Stp):Bool:=match kindsT[s.k]? with
 | none=>false
 | some r=>mayB r s
def printP (l:List Stp):List UInt8 × Nat:=if 4096<l.length then ([],3) else if l.all mayS=true then (l.flatMap lineOf,0) else ([],2)
def stepsOf:List V→Option (List Stp)
 | []=>some []
 | .int 3 k :: .int 3 a :: .int 3 b :: .str l n :: r=>(stepsOf r).map (⟨k,a,b,sbytes l n⟩ :: ·)
 | _=>none
theorem stepsOf_Stps:∀ l:List Stp,stepsOf (Stps l)=some l
 | []=>rfl
 | s :: l=>by
  show (stepsOf (Stps l)).map (⟨s.k,s.a,s.b,sbytes s.d.length (enc s.d)⟩ :: ·)=_
  rw [stepsOf_Stps l,sbytes_enc]
  rfl
structure StOK (s:Stp):Prop where
 k:s.k<18446744073709551616
 a:s.a<18446744073709551616
 b:s.b<18446744073709551616
 d:s.d.length<9223372036854775808
noncomputable def nPrint (args:List V) (H:Heap) (k:K):R:=match args with
 | [v]=>vSliceN 0 v (fun b o n _ _=>if n=0 then k (.tup [.str 0 0, .int 3 0]) H else if n≤1000000 then rdN 0 H b o (n * 4) fun l=>match stepsOf l with
   | some ss=>if ss.all (fun s=>decide (s.d.length<9223372036854775808))=true then k (.tup [tv (printP ss).1, .int 3 (printP ss).2]) H else no 0
   | none=>no 0
  else no 0) (k (.tup [.str 0 0, .int 3 0]) H)
 | _=>no 0
def StAt (H:Heap) (v:V) (l:List Stp):Prop:=(NoneV v∧l=[]) ∨ ∃ b o c s row,v = .slice b o l.length c s∧isRow (H.get b) row∧b<H.n∧o+l.length * 4≤row.length∧(row.drop o).take (l.length * 4)=Stps l
theorem Stps_one:∀ {l:List Stp},∀ v ∈ Stps l,v.one=true:=fun {l} v hv=>by
 obtain ⟨s,_,hs⟩:=List.mem_flatMap.1 hv
 simp only [Stp.cells,List.mem_cons,List.not_mem_nil,or_false] at hs
 rcases hs with rfl | rfl | rfl | rfl <;> rfl
theorem StAt.sn {H:Heap} {v:V} {l:List Stp} (h:StAt H v l) {id:Nat} {f:Nat→R}:vSliceN id v (fun _ _ len _ _=>f len) (f 0)=f l.length:=by
 rcases h with ⟨rfl | ⟨_,_,_,_,rfl⟩,rfl⟩ | ⟨_,_,_,_,_,rfl,_⟩ <;> rfl
theorem StAt.one {H:Heap} {v:V} {l:List Stp} (h:StAt H v l):v.one=true:=by
 rcases h with ⟨rfl | ⟨_,_,_,_,rfl⟩,rfl⟩ | ⟨_,_,_,_,_,rfl,_⟩ <;> rfl
theorem StAt.fresh {H G:Heap} {v:V} {l:List Stp} (h:StAt H v l) (f:Fresh H G):StAt G v l:=by
 rcases h with h | ⟨b,o,c,s,row,h1,h2,h3,h4,h5⟩
 ·exact Or.inl h
 ·exact Or.inr ⟨b,o,c,s,row,h1,by rw [f.same b h3];exact h2,Nat.lt_of_lt_of_le h3 f.n,h4,h5⟩
theorem Gr.stAt {H G:Heap} {v:V} {l:List Stp} (h:Gr H G v 4 l.length (Stps l)):StAt G v l:=by
 obtain ⟨zr1,zr2,⟨rfl,zr3⟩ | ⟨b,c,sz,rfl,zr3,zr4,zr5,zr6,zr7⟩⟩:=h
 ·exact Or.inl ⟨Or.inl rfl,List.eq_nil_of_length_eq_zero zr3⟩
 ·exact Or.inr ⟨b,0,c,sz,_,rfl,Or.inl zr5,zr7,by rw [zr1];omega,by rw [List.drop_zero,List.take_of_length_le (by omega)]⟩
theorem rdN_row {H:Heap} {b o n:Nat} {row l:List V} {id:Nat} {f:List V→R} (hr:isRow (H.get b) row) (hl:o+n≤row.length) (he:(row.drop o).take n=l) (h1:∀ v ∈ l,v.one=true):rdN id H b o n f=f l:=by
 rw [rdN_on]
 rcases hr with hr | hr
 ·rw [hr,rdNB_cells,dropN_eq (by omega),takeN_eq (by rw [List.length_drop];omega),he]
 ·rw [hr,rdNB_view,dropN_eq (by omega),takeN_eq (by rw [List.length_drop];omega),he]
  exact allOne_all h1
section
variable {t:Nat→Option FnE} {cp:RC→CodeE} {fuel d:Nat} {H:Heap} {k:K}
theorem print_call (hp:t 8=some (.nat nPrint)) {v:V} {l:List Stp} (h:StAt H v l) (hl:l.length≤1000000) (hok:∀ s ∈ l,StOK s):callP (evP cp t fuel (d+1)) (.func 16 []) [v] H k=k (.tup [tv (printP l).1, .int 3 (printP l).2]) H:=by
 rw [call_nat hp rfl rfl]
 have h0:k (.tup [.str 0 0, .int 3 0]) H=k (.tup [tv (printP []).1, .int 3 (printP []).2]) H:=rfl
 rcases h with ⟨rfl | ⟨_,_,_,_,rfl⟩,rfl⟩ | ⟨b,o,c,s,row,rfl,h2,h3,h4,h5⟩
 ·rfl
 ·rfl
 ·show (if l.length=0 then k (.tup [.str 0 0, .int 3 0]) H else if l.length≤1000000 then rdN 0 H b o (l.length * 4) (fun l=>match stepsOf l with
   | some ss=>if ss.all (fun s=>decide (s.d.length<9223372036854775808))=true then k (.tup [tv (printP ss).1, .int 3 (printP ss).2]) H else no 0
   | none=>no 0) else no 0)=_
  by_cases hl0:l.length=0
  ·rw [if_pos hl0,List.eq_nil_of_length_eq_zero hl0]
   rfl
  ·rw [if_neg hl0,if_pos hl,rdN_row h2 h4 h5 Stps_one,stepsOf_Stps]
   show (if l.all (fun s=>decide (s.d.length<9223372036854775808))=true then _ else _)=_
   rw [if_pos (List.all_eq_true.2 fun s hs=>decide_eq_true (hok s hs).d)]
end
end Go.Ev
end
section
namespace Go.Ev
section
variable {id:Nat} {ph:Phi} {e:Env} {H:Heap} {k:K}
theorem eqCs_nil {f:Bool→R}:eqCs id [] [] [] f=f true:=Eq.trans rfl rfl
theorem eqCs_int {q a b:Nat} {cls:List Nat} {l m:List V} {f:Bool→R}:eqCs id (1 :: cls) (.int q a :: l) (.int q b :: m) f=if a=b then eqCs id cls l m f else f false:=by
 show ifB (Nat.beq q q) (ifB (Nat.beq a b) (eqCs id cls l m f) (f false)) (no 0)=_
 simp only [ifB_if,nbeq,if_true]
theorem eqCs_str {a b:List UInt8} {cls:List Nat} {l m:List V} {f:Bool→R}:eqCs id (2 :: cls) (tv a :: l) (tv b :: m) f=if a=b then eqCs id cls l m f else f false:=by
 show ifB (Nat.beq a.length b.length) (ifB (Nat.beq (enc a) (enc b)) (eqCs id cls l m f) (f false)) (f false)=_
 simp only [ifB_if,nbeq]
 by_cases h:a=b
 ·subst h
  simp only [if_true]
 ·rw [if_neg h]
  split
  ·rename_i h1
   split
   ·rename_i h2
    exact absurd (tv_inj (by simp only [tv,h1,h2])) h
   ·rfl
  ·rfl
theorem eqCs_stp {s s':Stp} {f:Bool→R}:eqCs id [1,1,1,2] s.cells s'.cells f=f (decide (s=s')):=by
 obtain ⟨k,a,b,d⟩:=s
 obtain ⟨k',a',b',d'⟩:=s'
 simp only [Stp.cells,eqCs_int,eqCs_str,eqCs_nil]
 by_cases h1:k=k'
 ·by_cases h2:a=a'
  ·by_cases h3:b=b'
   ·by_cases h4:d=d'
    ·simp [h1,h2,h3,h4]
    ·simp [h1,h2,h3,h4]
   ·simp [h1,h2,h3]
  ·simp [h1,h2]
 ·simp [h1]
theorem op_aggEqS {neg:Bool} {x y:Arg} {s s':Stp} (h1:pgetA x e = .agg s.cells) (h2:pgetA y e = .agg s'.cells):evOp (.aggEq [1,1,1,2] neg x y) id ph e H k=k (.bool (if s=s' then !neg else neg)) H:=by
 show getA x e (fun x=>vAgg id x fun l=>getA y e fun y=>vAgg id y fun m=>ifB (Nat.beq (lenL l) (lenNs [1,1,1,2])) (ifB (Nat.beq (lenL m) (lenNs [1,1,1,2])) (eqCs id [1,1,1,2] l m fun b=>ifB b (ifB neg (k (.bool false) H) (k (.bool true) H)) (k (.bool neg) H)) (no 0)) (no 0))=_
 rw [getA_eq,h1]
 show getA y e (fun y=>vAgg id y fun m=>ifB (Nat.beq (lenL s.cells) (lenNs [1,1,1,2])) (ifB (Nat.beq (lenL m) (lenNs [1,1,1,2])) (eqCs id [1,1,1,2] s.cells m fun b=>ifB b (ifB neg (k (.bool false) H) (k (.bool true) H)) (k (.bool neg) H)) (no 0)) (no 0))=_
 rw [getA_eq,h2]
 show eqCs id [1,1,1,2] s.cells s'.cells (fun b=>ifB b (ifB neg (k (.bool false) H) (k (.bool true) H)) (k (.bool neg) H))=_
 rw [eqCs_stp]
 by_cases h:s=s'
 ·rw [decide_eq_true h,if_pos h]
  cases neg <;> rfl
 ·rw [decide_eq_false h,if_neg h]
  rfl
end
theorem StAt.four {H:Heap} {v:V} {l:List Stp} (h:StAt H v l) {i:Nat} {s:Stp} (hi:l[i]? = some s):∃ b o c z,v = .slice b o l.length c z ∧ ∀ {id:Nat} {f:List V→R},rdNB id (H.get b) (o+i * 4) 4 f=f s.cells:=by
 have hl:i<l.length:=by
  rcases Nat.lt_or_ge i l.length with h | h
  ·exact h
  ·rw [List.getElem?_eq_none h] at hi;cases hi
 rcases h with ⟨_,rfl⟩ | ⟨b,o,c,z,row,rfl,h2,h3,h4,h5⟩
 ·simp at hl
 ·refine ⟨b,o,c,z,rfl,fun {id f} => ?_⟩
  rw [← rdN_on]
  refine rdN_row (l:=s.cells) h2 (by omega) ?_ ?_
  ·have hsplit:l=l.take i ++ (s :: l.drop (i+1)):=by
    obtain ⟨h8,h9⟩:=List.getElem?_eq_some_iff.1 hi
    have:=List.drop_eq_getElem_cons h8
    rw [h9] at this
    rw [← this,List.take_append_drop]
   have hS:Stps l=Stps (l.take i) ++ (s.cells ++ Stps (l.drop (i+1))):=by
    conv=>lhs;rw [hsplit]
    simp only [Stps,List.flatMap_append,List.flatMap_cons]
   have h6:(Stps (l.take i)).length=i * 4:=by rw [Stps_len,List.length_take,Nat.min_eq_left (by omega)]
   have h7:((row.drop o).take (l.length * 4)).drop (i * 4)=s.cells ++ Stps (l.drop (i+1)):=by rw [h5,hS,← h6,List.drop_left]
   have h8:(((row.drop o).take (l.length * 4)).drop (i * 4)).take 4=s.cells:=by rw [h7];rfl
   rw [List.drop_take,List.take_take,List.drop_drop] at h8
   rw [← h8,Nat.min_eq_left (by omega)]
  ·intro v hv
   simp only [Stp.cells,List.mem_cons,List.not_mem_nil,or_false] at hv
   rcases hv with rfl | rfl | rfl | rfl <;> rfl
section
variable {t:Nat→Option FnE} {cp:RC→CodeE} {fuel:Nat} {H:Heap}
theorem alike_loop (T:TCode t) {v w:V} {es fs:List Stp} (hl:StAt H v es) (hq:StAt H w fs) (hw:H.wf) (hlen:fs.length=es.length) (hn:es.length<1000000) :
  ∀ (m i:Nat),i+m=es.length→es.take i=fs.take i → ∀ (ph:Phi) (kx:Nat→KE) (r:Nat) (e:Env),m<r→pget ⟨.i0, .i0, .i0⟩ e=v→pget ⟨.i0, .i0, .i1⟩ e=w→pget ⟨.i0, .i0, .i5⟩ e = .int 3 i →
   ∀ x:R,(es=fs → ∀ e',kx 1 e' H=x)→(es≠fs → ∀ e',pget ⟨.i0, .i0, .i4⟩ e' = .bool false→kx 0 e' H=x) →
   evL c15l0 fuel ph kx r e H=x:=by
 have hs:=fun {id:Nat} {f:Nat→R}=>hl.sn (id:=id) (f:=f)
 intro m
 induction m with
 | zero=>
  intro i hi ht ph kx r e hr h0 h1 h5 x hY hN
  obtain ⟨r,rfl⟩:∃ q,r=q+1:=⟨r-1,by omega⟩
  obtain rfl:i=es.length:=by omega
  have e1:¬ es.length<es.length:=by omega
  have e2:nn es.length:=by unfold nn;omega
  have e8:es.length<9223372036854775808:=by omega
  rw [evL_succ]
  simp only [go_sem,↓op_app,reduceCtorEq,Nat.reduceAdd,Nat.reduceSub,Nat.reduceMul,Nat.reduceEqDiff,Nat.reduceLT,Nat.reduceDiv,Nat.reduceMod,Nat.reduceLeDiff,↓reduceIte,c15l0,h0,h1,h5,↓hs,e1,e2,e8]
  refine hY ?_ _
  rwa [List.take_of_length_le (by omega),List.take_of_length_le (by omega)] at ht
 | succ m ih=>
  intro i hi ht ph kx r e hr h0 h1 h5 x hY hN
  obtain ⟨r,rfl⟩:∃ q,r=q+1:=⟨r-1,by omega⟩
  have hlt:i<es.length:=by omega
  have g1:es[i]? = some es[i]:=List.getElem?_eq_getElem hlt
  have g2:fs[i]? = some fs[i]:=List.getElem?_eq_getElem (by omega)
  obtain ⟨b,o,c,s,hv,zr1⟩:=hl.four g1
  obtain ⟨b',o',c',s',hv',zr2⟩:=hq.four g2
  rw [hlen] at hv'
  have e1:nn i:=by unfold nn;omega
  have e2:nn es.length:=by unfold nn;omega
  have e3:i<9223372036854775808:=by omega
  have e8:es.length<9223372036854775808:=by omega
  have e9:(i+1) % 18446744073709551616=i+1:=by omega
  have hst:es[i]=fs[i]→es.take (i+1)=fs.take (i+1):=fun he=>by
   rw [List.take_succ_eq_append_getElem hlt,List.take_succ_eq_append_getElem (by omega),ht,he]
  have hne:es[i]≠fs[i]→es≠fs:=fun he h=>he (by subst h;rfl)
  generalize es[i]=ea at zr1 hst hne
  generalize fs[i]=eb at zr2 hst hne
  subst hv
  rw [hv'] at h1
  have z:∀ {id:Nat} {ph:Phi} {e':Env} {H:Heap} {k:K},pgetA (.s ⟨.i0, .i2, .i4⟩) e' = .agg ea.cells→pgetA (.s ⟨.i0, .i3, .i0⟩) e' = .agg eb.cells→evOp (.aggEq [1,1,1,2] true (.s ⟨.i0, .i2, .i4⟩) (.s ⟨.i0, .i3, .i0⟩)) id ph e' H k=k (.bool (if ea=eb then !true else true)) H:=fun {id ph e' H k} p q=>op_aggEqS p q
  rw [evL_succ]
  by_cases q1:ea=eb
  ·rw [if_pos q1] at z
   simp only [go_sem,↓op_app,reduceCtorEq,Nat.reduceAdd,Nat.reduceSub,Nat.reduceMul,Nat.reduceEqDiff,Nat.reduceLT,Nat.reduceDiv,Nat.reduceMod,Nat.reduceLeDiff,↓reduceIte,c15l0,h0,h1,h5,hlt,e1,e2,e3,e8,e9,zr1,zr2,hw,↓z]
   refine ih (i+1) (by omega) (hst q1) ph kx r _ (by omega) ?_ ?_ ?_ x hY hN
   ·simp only [go_sem,reduceCtorEq,↓reduceIte,h0]
   ·simp only [go_sem,↓op_app,reduceCtorEq,Nat.reduceAdd,Nat.reduceSub,Nat.reduceMul,Nat.reduceEqDiff,Nat.reduceLT,Nat.reduceDiv,Nat.reduceMod,Nat.reduceLeDiff,↓reduceIte,h1,hv']
   ·simp only [go_sem,reduceCtorEq,↓reduceIte]
  ·rw [if_neg q1] at z
   simp only [go_sem,↓op_app,reduceCtorEq,Nat.reduceAdd,Nat.reduceSub,Nat.reduceMul,Nat.reduceEqDiff,Nat.reduceLT,Nat.reduceDiv,Nat.reduceMod,Nat.reduceLeDiff,↓reduceIte,c15l0,h0,h1,h5,hlt,e1,e2,e3,e8,e9,zr1,zr2,hw,↓z]
   exact hN (hne q1) _ (by simp only [go_sem,reduceCtorEq,↓reduceIte])
theorem alike_call (T:TCode t) {v w:V} {es fs:List Stp} (hw:H.wf) (hl:StAt H v es) (hq:StAt H w fs) (hn:es.length<1000000) (hm:fs.length<1000000) (hfu:1000001<fuel) (d:Nat) (k:K) :
  callP (evP cp t fuel (d+1)) (.func 30 []) [v,w] H k=k (.bool (decide (es=fs))) H:=by
 have hs:=fun {id:Nat} {f:Nat→R}=>hl.sn (id:=id) (f:=f)
 have hs2:=fun {id:Nat} {f:Nat→R}=>hq.sn (id:=id) (f:=f)
 have e8:es.length<9223372036854775808:=by omega
 have e9:fs.length<9223372036854775808:=by omega
 rw [call_entry T.k15 rfl rfl]
 by_cases hlen:es.length=fs.length
 ·rw [← hlen] at hs2 e9
  simp only [go_sem,↓op_app,reduceCtorEq,Nat.reduceAdd,Nat.reduceSub,Nat.reduceMul,Nat.reduceEqDiff,Nat.reduceLT,Nat.reduceDiv,Nat.reduceMod,Nat.reduceLeDiff,↓reduceIte,c15,↓hs,↓hs2,e8,e9]
  refine alike_loop (H:=H) T hl hq hw hlen.symm hn es.length 0 (by omega) rfl _ _ fuel _ (by omega) ?_ ?_ ?_ _ (fun he e' => ?_) (fun he e' h4 => ?_)
  ·simp only [go_sem,reduceCtorEq,↓reduceIte]
  ·simp only [go_sem,reduceCtorEq,↓reduceIte]
  ·simp only [go_sem,reduceCtorEq,↓reduceIte]
  ·simp only [go_sem,↓op_app,reduceCtorEq,Nat.reduceAdd,Nat.reduceSub,Nat.reduceMul,Nat.reduceEqDiff,Nat.reduceLT,Nat.reduceDiv,Nat.reduceMod,Nat.reduceLeDiff,↓reduceIte,decide_eq_true he]
  ·simp only [go_sem,↓op_app,reduceCtorEq,Nat.reduceAdd,Nat.reduceSub,Nat.reduceMul,Nat.reduceEqDiff,Nat.reduceLT,Nat.reduceDiv,Nat.reduceMod,Nat.reduceLeDiff,↓reduceIte,h4,decide_eq_false he]
 ·have hne:es≠fs:=fun h=>hlen (by rw [h])
  simp only [go_sem,↓op_app,reduceCtorEq,Nat.reduceAdd,Nat.reduceSub,Nat.reduceMul,Nat.reduceEqDiff,Nat.reduceLT,Nat.reduceDiv,Nat.reduceMod,Nat.reduceLeDiff,↓reduceIte,c15,↓hs,↓hs2,e8,e9,hlen,decide_eq_false hne]
end
end Go.Ev
end
section
namespace Go.Ev
def bodyOf (s:Stp):List UInt8:=match kindsT[s.k]? with
 | none => []
 | some r=>r.w ++ (32 :: decD s.a) ++ (if r.b=neg1 then [] else 32 :: decD s.b) ++ (if r.d=true then 32 :: s.d else [])
def wordsOf (r:KRow) (s:Stp):List (List UInt8):=[r.w,decD s.a] ++ (if r.b=neg1 then [] else [decD s.b]) ++ (if r.d=true then [s.d] else [])
def plainB (b:UInt8):Bool := !blankB b && decide (b≠10)
theorem digit_plain:∀ n,n<10→plainB (UInt8.ofNat (48+n))=true:=by decide
theorem decD_plain {n:Nat} (h:n<10000):(∀ b ∈ decD n,plainB b=true)∧decD n≠[]:=by
 unfold decD
 have h1:=digit_plain (n % 10) (by omega)
 have h2:=digit_plain (n / 10 % 10) (by omega)
 have h3:=digit_plain (n / 100 % 10) (by omega)
 split
 ·refine ⟨fun b hb => ?_,by simp⟩
  rw [List.mem_singleton] at hb;subst hb
  exact digit_plain n (by omega)
 ·split
  ·refine ⟨fun b hb => ?_,by simp⟩
   simp only [List.mem_cons,List.not_mem_nil,or_false] at hb
   rcases hb with rfl | rfl
   ·exact digit_plain (n / 10) (by omega)
   ·exact h1
  ·split
   ·refine ⟨fun b hb => ?_,by simp⟩
    simp only [List.mem_cons,List.not_mem_nil,or_false] at hb
    rcases hb with rfl | rfl | rfl
    ·exact digit_plain (n / 100) (by omega)
    ·exact h2
    ·exact h1
   ·refine ⟨fun b hb => ?_,by simp⟩
    simp only [List.mem_cons,List.not_mem_nil,or_false] at hb
    rcases hb with rfl | rfl | rfl | rfl
    ·exact digit_plain (n / 1000) (by omega)
    ·exact h3
    ·exact h2
    ·exact h1
theorem fieldsGo_word:∀ (w rest cur:List UInt8),(∀ b ∈ w,plainB b=true)→cur ++ w≠[]→fieldsGo (w ++ 32 :: rest) cur=(cur ++ w) :: fieldsGo rest []
 | [],rest,cur,_,hn=>by
  rw [List.append_nil] at hn
  rw [List.nil_append,fieldsGo,if_pos (by decide),if_neg hn,List.append_nil]
 | b :: w,rest,cur,hp,hn=>by
  have hb:=hp b (List.mem_cons_self ..)
  have hb':blankB b=false:=by simp [plainB] at hb;exact hb.1
  rw [List.cons_append,fieldsGo,hb',if_neg (by simp),fieldsGo_word w rest (cur ++ [b]) (fun x hx=>hp x (List.mem_cons_of_mem _ hx)) (by simp),List.append_assoc]
  rfl
theorem fieldsGo_last:∀ (w cur:List UInt8),(∀ b ∈ w,plainB b=true)→cur ++ w≠[]→fieldsGo w cur=[cur ++ w]
 | [],cur,_,hn=>by
  rw [List.append_nil] at hn
  rw [fieldsGo,if_neg hn,List.append_nil]
 | b :: w,cur,hp,hn=>by
  have hb:=hp b (List.mem_cons_self ..)
  have hb':blankB b=false:=by simp [plainB] at hb;exact hb.1
  rw [fieldsGo,hb',if_neg (by simp),fieldsGo_last w (cur ++ [b]) (fun x hx=>hp x (List.mem_cons_of_mem _ hx)) (by simp),List.append_assoc]
  rfl
theorem kinds_plain:∀ r ∈ kindsT,(∀ b ∈ r.w,plainB b=true)∧r.w≠[]∧r.w.headD 0≠35:=by decide
theorem kindB_at:∀ i r,kindsT[i]? = some r→kindB r.w=some (i,r)
 | 0,r,h=>by cases h;rfl
 | 1,r,h=>by cases h;rfl
 | 2,r,h=>by cases h;rfl
 | 3,r,h=>by cases h;rfl
 | 4,r,h=>by cases h;rfl
 | 5,r,h=>by cases h;rfl
 | 6,r,h=>by cases h;rfl
 | 7,r,h=>by cases h;rfl
 | 8,r,h=>by cases h;rfl
 | 9,r,h=>by cases h;rfl
 | 10,r,h=>by cases h;rfl
 | 11,r,h=>by cases h;rfl
 | n+12,r,h=>by simp [kindsT] at h
theorem odd_plain {b:UInt8} (h:oddB b=false):plainB b=true:=by
 simp [oddB] at h
 simp [plainB,blankB]
 refine ⟨⟨by omega,by omega⟩,fun e => ?_⟩
 subst e
 simp at h
structure MayD (r:KRow) (s:Stp):Prop where
 a:s.a<10000
 b:r.b≠neg1→s.b<10000
 b0:r.b=neg1→s.b=0
 d:r.d=true→(∀ x ∈ s.d,plainB x=true)∧s.d≠[]∧s.d.length≤32
 d0:r.d≠true→s.d=[]
theorem within_le {n m:Nat} (h:within n m=true):n≤(if m<9223372036854775808 then m else 0):=by
 simp [within] at h
 exact h.2
theorem mayB_d {r:KRow} {s:Stp} (hr:r ∈ kindsT) (h:mayB r s=true):MayD r s:=by
 obtain ⟨k1,k2⟩:=kinds_ok r hr
 simp only [mayB,Bool.and_eq_true] at h
 obtain ⟨⟨h1,h2⟩,h3⟩:=h
 have h2:=within_le h2
 have h3:=within_le h3
 refine ⟨?_,fun hb => ?_,fun hb => ?_,fun hd => ?_,fun hd => ?_⟩
 ·split at h2 <;> omega
 ·rcases k2 with k2 | k2
  ·exact absurd k2 hb
  ·split at h3 <;> omega
 ·rw [hb,if_neg (by decide)] at h3
  omega
 ·rw [if_pos hd] at h1
  simp only [Bool.and_eq_true,decide_eq_true_eq,Bool.not_eq_true'] at h1
  obtain ⟨⟨h4,h5⟩,h6⟩:=h1
  refine ⟨fun x hx=>odd_plain ?_,h4,h5⟩
  rw [List.any_eq_false] at h6
  simpa using h6 x hx
 ·rw [if_neg hd] at h1
  simpa using h1
theorem mayS_row {s:Stp} (h:mayS s=true):∃ r,kindsT[s.k]? = some r∧r ∈ kindsT∧mayB r s=true∧MayD r s:=by
 unfold mayS at h
 cases hr:kindsT[s.k]? with
 | none=>rw [hr] at h;cases h
 | some r=>
  rw [hr] at h
  have hm:=List.mem_of_getElem? hr
  exact ⟨r,rfl,hm,h,mayB_d hm h⟩
theorem lineOf_body {s:Stp} (h:mayS s=true):lineOf s=bodyOf s ++ [10]:=by
 obtain ⟨r,hr,_⟩:=mayS_row h
 simp only [lineOf,bodyOf,hr]
theorem body_fields {s:Stp} {r:KRow} (hr:kindsT[s.k]? = some r) (hm:r ∈ kindsT) (h:MayD r s):fieldsP (bodyOf s)=wordsOf r s:=by
 obtain ⟨p1,p2,_⟩:=kinds_plain r hm
 obtain ⟨a1,a2⟩:=decD_plain h.a
 have e1:∀ x,fieldsGo (r.w ++ 32 :: x) []=r.w :: fieldsGo x []:=fun x=>by rw [fieldsGo_word r.w x [] p1 (by simpa using p2)];rfl
 have e2:∀ x,fieldsGo (decD s.a ++ 32 :: x) []=decD s.a :: fieldsGo x []:=fun x=>by rw [fieldsGo_word _ x [] a1 (by simpa using a2)];rfl
 have e3:fieldsGo (decD s.a) []=[decD s.a]:=by rw [fieldsGo_last _ [] a1 (by simpa using a2)];rfl
 show fieldsGo (bodyOf s) []=_
 simp only [bodyOf,hr,wordsOf]
 by_cases hb:r.b=neg1
 ·rw [if_pos hb,if_pos hb]
  by_cases hd:r.d=true
  ·obtain ⟨d1,d2,_⟩:=h.d hd
   rw [if_pos hd,if_pos hd]
   simp only [List.append_nil,List.append_assoc,List.cons_append]
   rw [e1,e2,fieldsGo_last _ [] d1 (by simpa using d2)] <;> rfl
  ·rw [if_neg hd,if_neg hd]
   simp only [List.append_nil,List.append_assoc,List.cons_append]
   rw [e1,e3] <;> rfl
 ·obtain ⟨b1,b2⟩:=decD_plain (h.b hb)
  rw [if_neg hb,if_neg hb]
  by_cases hd:r.d=true
  ·obtain ⟨d1,d2,_⟩:=h.d hd
   rw [if_pos hd,if_pos hd]
   simp only [List.append_nil,List.append_assoc,List.cons_append]
   rw [e1,e2,fieldsGo_word _ _ [] b1 (by simpa using b2),fieldsGo_last _ [] d1 (by simpa using d2)] <;> rfl
  ·rw [if_neg hd,if_neg hd]
   simp only [List.append_nil,List.append_assoc,List.cons_append]
   rw [e1,e2,fieldsGo_last _ [] b1 (by simpa using b2)] <;> rfl
theorem step_words {num:List UInt8→Nat} (N:NumOK num) {s:Stp} {r:KRow} (hr:kindsT[s.k]? = some r) (hm:r ∈ kindsT) (hb:mayB r s=true) (h:MayD r s):stepP num (wordsOf r s)=(s,0):=by
 have hk:=kindB_at s.k r hr
 have n1:num (decD s.a)=s.a:=(N.is _ _ h.a).2 rfl
 have hw:wordsOf r s=r.w :: decD s.a :: ((if r.b=neg1 then [] else [decD s.b]) ++ (if r.d=true then [s.d] else [])):=rfl
 obtain ⟨k,a,b,d⟩:=s
 unfold stepP
 rw [hw,show kindB ((r.w :: decD a :: ((if r.b=neg1 then [] else [decD b]) ++ (if r.d=true then [d] else []))).headD [])=some (k,r) from hk]
 simp only [List.tail_cons,List.headD_cons]
 simp only [] at n1
 by_cases h1:r.b=neg1
 ·have hb0:b=0:=h.b0 h1
  simp only [if_pos h1,List.nil_append]
  by_cases h2:r.d=true
  ·simp only [if_pos h2,List.headD_cons,List.tail_cons,n1]
   subst hb0
   rw [if_pos ⟨trivial,hb⟩]
  ·have hd0:d=[]:=h.d0 h2
   simp only [if_neg h2,n1]
   subst hb0
   subst hd0
   rw [if_pos ⟨trivial,hb⟩]
 ·have n2:num (decD b)=b:=(N.is _ _ (h.b h1)).2 rfl
  simp only [if_neg h1,List.cons_append,List.nil_append,List.headD_cons,List.tail_cons]
  by_cases h2:r.d=true
  ·simp only [if_pos h2,List.headD_cons,List.tail_cons,n1,n2]
   rw [if_pos ⟨trivial,hb⟩]
  ·have hd0:d=[]:=h.d0 h2
   simp only [if_neg h2,n1,n2]
   subst hd0
   rw [if_pos ⟨trivial,hb⟩]
end Go.Ev
end
section
namespace Go.Ev
theorem linesP_last:∀ (w:List UInt8),(∀ b ∈ w,b≠10)→linesP w=[w]
 | [],_=>rfl
 | b :: w,h=>by
  rw [linesP,if_neg (h b (List.mem_cons_self ..)),linesP_last w fun x hx=>h x (List.mem_cons_of_mem _ hx)]
theorem linesP_line:∀ (w rest:List UInt8),(∀ b ∈ w,b≠10)→linesP (w ++ 10 :: rest)=w :: linesP rest
 | [],rest,_=>by rw [List.nil_append,linesP,if_pos rfl]
 | b :: w,rest,h=>by
  rw [List.cons_append,linesP,if_neg (h b (List.mem_cons_self ..)),linesP_line w rest fun x hx=>h x (List.mem_cons_of_mem _ hx)]
theorem plain_ne {w:List UInt8} (h:∀ b ∈ w,plainB b=true):∀ b ∈ w,b≠10:=fun b hb=>by
 have:=h b hb
 simp [plainB] at this
 exact this.2
theorem body_ne {s:Stp} (h:mayS s=true):∀ b ∈ bodyOf s,b≠10:=by
 obtain ⟨r,hr,hm,_,D⟩:=mayS_row h
 have p1:=plain_ne (kinds_plain r hm).1
 have p2:=plain_ne (decD_plain D.a).1
 intro b hb
 simp only [bodyOf,hr,List.mem_append] at hb
 rcases hb with ((hb | hb) | hb) | hb
 ·exact p1 b hb
 ·rcases List.mem_cons.1 hb with rfl | hb
  ·decide
  ·exact p2 b hb
 ·split at hb
  ·cases hb
  ·rename_i h1
   rcases List.mem_cons.1 hb with rfl | hb
   ·decide
   ·exact plain_ne (decD_plain (D.b h1)).1 b hb
 ·split at hb
  ·rename_i h1
   rcases List.mem_cons.1 hb with rfl | hb
   ·decide
   ·exact plain_ne (D.d h1).1 b hb
  ·cases hb
theorem body_line {num:List UInt8→Nat} (N:NumOK num) {s:Stp} (h:mayS s=true):lineP (bodyOf s)=some (fieldsP (bodyOf s))∧stepP num (fieldsP (bodyOf s))=(s,0):=by
 obtain ⟨r,hr,hm,hb,D⟩:=mayS_row h
 have hf:=body_fields hr hm D
 obtain ⟨_,k2,k3⟩:=kinds_plain r hm
 refine ⟨?_,by rw [hf];exact step_words N hr hm hb D⟩
 unfold lineP
 rw [hf,if_neg]
 rintro (h1 | h1)
 ·simp [wordsOf] at h1
 ·exact k3 h1
theorem parseGo_body {num:List UInt8→Nat} (N:NumOK num) {s:Stp} (h:mayS s=true) (a:Nat) (acc:List Stp) (hacc:acc.length≠4096) (ls:List (List UInt8)):parseGo num (bodyOf s :: ls) a acc=parseGo num ls (a+1) (acc ++ [s]):=by
 obtain ⟨h1,h2⟩:=body_line N h
 simp only [parseGo,h1,h2]
 rw [if_neg (by simp),if_neg hacc]
theorem parse_body {num:List UInt8→Nat} (N:NumOK num) {s:Stp} (h:mayS s=true):parseGo num (linesP (bodyOf s)) 0 [] = .ok [s]:=by
 rw [linesP_last _ (body_ne h),parseGo_body N h 0 [] (by simp)]
 rfl
theorem parseGo_nil (num:List UInt8→Nat) (a:Nat) (acc:List Stp):parseGo num [[]] a acc = .ok acc:=by
 simp only [parseGo]
 have:lineP []=none:=by unfold lineP;rw [if_pos (Or.inl (show fieldsP []=[] from rfl))]
 rw [this]
theorem parse_lines {num:List UInt8→Nat} (N:NumOK num):∀ (l:List Stp) (a:Nat) (acc:List Stp),(∀ s ∈ l,mayS s=true)→acc.length+l.length≤4096→parseGo num (linesP (l.flatMap lineOf)) a acc = .ok (acc ++ l)
 | [],a,acc,_,_=>by
  rw [List.flatMap_nil,List.append_nil]
  exact parseGo_nil num a acc
 | s :: l,a,acc,h,hl=>by
  have hs:=h s (List.mem_cons_self ..)
  simp only [List.length_cons] at hl
  rw [List.flatMap_cons,lineOf_body hs,List.append_assoc]
  show parseGo num (linesP (bodyOf s ++ 10 :: l.flatMap lineOf)) a acc=_
  rw [linesP_line _ _ (body_ne hs),parseGo_body N hs a acc (by omega),parse_lines N l (a+1) (acc ++ [s]) (fun x hx=>h x (List.mem_cons_of_mem _ hx)) (by simp;omega),List.append_assoc]
  rfl
theorem stepP_some {num:List UInt8→Nat} {F:List (List UInt8)} {i:Nat} {r:KRow} (hk:kindB (F.headD [])=some (i,r)):∃ (l3:List (List UInt8)) (s:Stp),s.k=i∧stepP num F=if l3=[]∧mayB r s=true then (s,0) else (stp0,4):=by
 unfold stepP
 rw [hk]
 refine ⟨_,_, ?_,rfl⟩
 rfl
theorem stepP_may {num:List UInt8→Nat} {F:List (List UInt8)} (h:(stepP num F).2=0):mayS (stepP num F).1=true:=by
 cases hk:kindB (F.headD []) with
 | none=>
  unfold stepP at h
  rw [hk] at h
  cases h
 | some p=>
  obtain ⟨i,r⟩:=p
  obtain ⟨l3,s,hs,he⟩:=stepP_some (num:=num) hk
  rw [he] at h ⊢
  by_cases hc:l3=[]∧mayB r s=true
  ·rw [if_pos hc]
   obtain ⟨_,_,_,h4,_⟩:=findK_mem kindsT 0 _ i r hk
   rw [Nat.sub_zero] at h4
   unfold mayS
   rw [show ((s,0):Stp × Nat).1=s from rfl,hs,h4]
   exact hc.2
  ·rw [if_neg hc] at h
   cases h
theorem parseGo_may {num:List UInt8→Nat}:∀ (ls:List (List UInt8)) (a:Nat) (acc out:List Stp),(∀ s ∈ acc,mayS s=true)→parseGo num ls a acc = .ok out → ∀ s ∈ out,mayS s=true
 | [],a,acc,out,h,ho=>by cases ho;exact h
 | l :: ls,a,acc,out,h,ho=>by
  simp only [parseGo] at ho
  cases hl:lineP l with
  | none=>rw [hl] at ho;exact parseGo_may ls _ _ _ h ho
  | some F=>
   rw [hl] at ho
   simp only [] at ho
   split at ho
   ·cases ho
   ·rename_i h1
    split at ho
    ·cases ho
    ·refine parseGo_may ls _ _ _ (fun s hs => ?_) ho
     rcases List.mem_append.1 hs with hs | hs
     ·exact h s hs
     ·rw [List.mem_singleton] at hs
      subst hs
      exact stepP_may (by omega)
end Go.Ev
end
section
namespace Go.Ev
def nWorks (args:List V) (H:Heap) (k:K):R:=match args with
 | []=>k (.bool true) H
 | _=>no 0
def CapOK (v:V):Prop:=v = .nils ∨ ∃ b o n c z,v = .slice b o n c z∧n+1≤c
theorem printP_one {s:Stp}:printP [s]=if mayS s=true then (lineOf s,0) else ([],2):=by
 unfold printP
 rw [if_neg (by simp)]
 by_cases h:mayS s=true
 ·rw [if_pos (by simp [h]),if_pos h]
  simp
 ·rw [if_neg (by simp [h]),if_neg h]
theorem StAt.one_of {H:Heap} {b o c z:Nat} {l:List Stp} (h:StAt H (.slice b o l.length c z) l) {i:Nat} {s:Stp} (hi:l[i]? = some s) (c' z':Nat):StAt H (.slice b (o+i * 4) 1 c' z') [s]:=by
 have hl:i<l.length:=by
  rcases Nat.lt_or_ge i l.length with h | h
  ·exact h
  ·rw [List.getElem?_eq_none h] at hi;cases hi
 rcases h with ⟨_,rfl⟩ | ⟨b',o',zc1,z1,row,he,h2,h3,h4,h5⟩
 ·simp at hl
 ·cases he
  refine Or.inr ⟨b,o+i * 4,c',z',row,rfl,h2,h3,by simp;omega, ?_⟩
  have hsplit:l=l.take i ++ (s :: l.drop (i+1)):=by
   obtain ⟨h8,h9⟩:=List.getElem?_eq_some_iff.1 hi
   have:=List.drop_eq_getElem_cons h8
   rw [h9] at this
   rw [← this,List.take_append_drop]
  have hS:Stps l=Stps (l.take i) ++ (s.cells ++ Stps (l.drop (i+1))):=by
   conv=>lhs;rw [hsplit]
   simp only [Stps,List.flatMap_append,List.flatMap_cons]
  have h6:(Stps (l.take i)).length=i * 4:=by rw [Stps_len,List.length_take,Nat.min_eq_left (by omega)]
  have h7:((row.drop o).take (l.length * 4)).drop (i * 4)=s.cells ++ Stps (l.drop (i+1)):=by rw [h5,hS,← h6,List.drop_left]
  have h8:(((row.drop o).take (l.length * 4)).drop (i * 4)).take 4=s.cells:=by rw [h7];rfl
  rw [List.drop_take,List.take_take,List.drop_drop] at h8
  have h9:Stps [s]=s.cells:=by simp [Stps]
  rw [h9,← h8,Nat.min_eq_left (by omega)]
  rfl
section
variable {t:Nat→Option FnE} {cp:RC→CodeE} {fuel:Nat} {H:Heap} {dec:List UInt8→Nat × Nat} {num:List UInt8→Nat}
theorem works_call (hwk:t 10=some (.nat nWorks)) {d:Nat} {k:K} {G:Heap}:callP (evP cp t fuel (d+1)) (.func 20 []) [] G k=k (.bool true) G:=by
 rw [call_nat hwk rfl rfl]
 rfl
end
end Go.Ev
end
section
namespace Go.Ev
theorem enc_byte {s:List UInt8} {i:Nat} {b:UInt8} (h:s[i]? = some b):enc s >>> (8 * i) &&& 255=b.toNat:=by
 obtain ⟨h1,h2⟩:=List.getElem?_eq_some_iff.1 h
 rw [enc_at s i h1,h2]
theorem drop_get {s:List UInt8} {i:Nat} {b:UInt8} {l:List UInt8} (h:s.drop i=b :: l):s[i]? = some b∧i<s.length∧s.drop (i+1)=l:=by
 obtain ⟨h1,h2⟩:=drop_step h
 refine ⟨h1, ?_,h2⟩
 rcases Nat.lt_or_ge i s.length with h | h
 ·exact h
 ·rw [List.getElem?_eq_none h] at h1;cases h1
section
variable {t:Nat→Option FnE} {cp:RC→CodeE} {fuel:Nat} {H:Heap} {dec:List UInt8→Nat × Nat} {num:List UInt8→Nat}
end
end Go.Ev
end
section
namespace Go.Ev
theorem decD_len (n:Nat):(decD n).length≤4:=by
 unfold decD
 split
 ·simp
 ·split
  ·simp
  ·split <;> simp
theorem kinds_len:∀ r ∈ kindsT,r.w.length≤7:=by decide
theorem lineOf_len {s:Stp} (h:mayS s=true):(lineOf s).length≤100:=by
 obtain ⟨r,hr,hm,_,D⟩:=mayS_row h
 have h1:=kinds_len r hm
 have h2:=decD_len s.a
 have h3:=decD_len s.b
 simp only [lineOf,hr,List.length_append,List.length_cons,List.length_nil]
 have h4:(if r.b=neg1 then ([]:List UInt8) else 32 :: decD s.b).length≤5:=by
  split
  ·simp
  ·simp;omega
 have h5:(if r.d=true then 32 :: s.d else ([]:List UInt8)).length≤33:=by
  split
  ·rename_i hd
   have:=(D.d hd).2.2
   simp;omega
  ·simp
 omega
theorem lines_lenP:∀ (l:List Stp),(∀ s ∈ l,mayS s=true)→(l.flatMap lineOf).length≤l.length * 100
 | [],_=>by simp
 | s :: l,h=>by
  have h1:=lineOf_len (h s (List.mem_cons_self ..))
  have h2:=lines_lenP l fun x hx=>h x (List.mem_cons_of_mem _ hx)
  rw [List.flatMap_cons,List.length_append,List.length_cons]
  omega
theorem printP_ok {l:List Stp} (h:∀ s ∈ l,mayS s=true) (hl:l.length≤4096):printP l=(l.flatMap lineOf,0):=by
 unfold printP
 rw [if_neg (by omega),if_pos (by rw [List.all_eq_true];exact h)]
theorem printP_bad {l:List Stp} (h:∃ s ∈ l,mayS s≠true) (hl:l.length≤4096):printP l=([],2):=by
 unfold printP
 rw [if_neg (by omega),if_neg]
 intro h1
 rw [List.all_eq_true] at h1
 obtain ⟨s,h2,h3⟩:=h
 exact h3 (h1 s h2)
theorem StAt.take {H:Heap} {b o c z:Nat} {l:List Stp} (h:StAt H (.slice b o l.length c z) l) {q:Nat} (hq:q≤l.length) (c' z':Nat):StAt H (.slice b o q c' z') (l.take q):=by
 have hl:(l.take q).length=q:=by rw [List.length_take];omega
 rcases h with ⟨_,rfl⟩ | ⟨b',o',zc1,z1,row,he,h2,h3,h4,h5⟩
 ·have:q=0:=by simpa using hq
  subst this
  exact Or.inl ⟨Or.inr ⟨_,_,_,_,rfl⟩,rfl⟩
 ·cases he
  refine Or.inr ⟨b,o,c',z',row,by rw [hl],h2,h3,by rw [hl];omega, ?_⟩
  have hS:Stps l=Stps (l.take q) ++ Stps (l.drop q):=by
   conv=>lhs;rw [← List.take_append_drop q l]
   simp only [Stps,List.flatMap_append]
  have h6:(Stps (l.take q)).length=q * 4:=by rw [Stps_len,hl]
  have h7:((row.drop o).take (l.length * 4)).take (q * 4)=Stps (l.take q):=by rw [h5,hS,← h6,List.take_left]
  rw [List.take_take,Nat.min_eq_left (by omega)] at h7
  rw [hl,h7]
section
variable {t:Nat→Option FnE} {cp:RC→CodeE} {fuel:Nat} {H:Heap} {dec:List UInt8→Nat × Nat} {num:List UInt8→Nat}
end
end Go.Ev
end
