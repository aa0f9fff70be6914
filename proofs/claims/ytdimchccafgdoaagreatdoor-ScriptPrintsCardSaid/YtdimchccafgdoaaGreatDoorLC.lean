/- LC: a part of the evaluator,of its logic,or of the laws' walk in it. -/
import Derived.Test.YtdimchccafgdoaaGreatDoorLB
set_option linter.unusedVariables false
set_option linter.unusedSimpArgs false
set_option linter.unusedSectionVars false
section
namespace Go.Ev
open Go.RowKit
def lineOf (s:Stp):List UInt8:=match kindsT[s.k]? with
 | none => []
 | some r=>r.w ++ (32 :: decD s.a) ++ (if r.b=neg1 then [] else 32 :: decD s.b) ++ (if r.d=true then 32 :: s.d else []) ++ [10]
def mayS (s:Stp):Bool:=match kindsT[s.k]? with
 | none=>false
 | some r=>mayB r s
def printP (l:List Stp):List UInt8 × Nat:=if 4096<l.length then ([],3) else if l.all mayS=true then (l.flatMap lineOf,0) else ([],2)
def stepsOf:List V→Option (List Stp)
 | []=>some []
 | .int 3 k :: .int 3 a :: .int 3 b :: .str l n :: r=>(stepsOf r).map (⟨k,a,b,sbytes l n⟩ :: ·)
 | _=>none
theorem stepsOf_Stps:∀ l:List Stp,stepsOf (Stps l)=some l
 | []=>rfl
 | s :: l=>by
  show (stepsOf (Stps l)).map (⟨s.k,s.a,s.b,sbytes s.d.length (enc s.d)⟩ :: ·)=_
  rw [stepsOf_Stps l,sbytes_enc]
  rfl
structure StOK (s:Stp):Prop where
 k:s.k<18446744073709551616
 a:s.a<18446744073709551616
 b:s.b<18446744073709551616
 d:s.d.length<9223372036854775808
noncomputable def nPrint (args:List V) (H:Heap) (k:K):R:=match args with
 | [v]=>vSliceN 0 v (fun b o n _ _=>if n=0 then k (.tup [.str 0 0, .int 3 0]) H else if n≤1000000 then rdN 0 H b o (n * 4) fun l=>match stepsOf l with
   | some ss=>if ss.all (fun s=>decide (s.d.length<9223372036854775808))=true then k (.tup [tv (printP ss).1, .int 3 (printP ss).2]) H else no 0
   | none=>no 0
  else no 0) (k (.tup [.str 0 0, .int 3 0]) H)
 | _=>no 0
def StAt (H:Heap) (v:V) (l:List Stp):Prop:=(NoneV v∧l=[]) ∨ ∃ b o c s row,v = .slice b o l.length c s∧isRow (H.get b) row∧b<H.n∧o+l.length * 4≤row.length∧(row.drop o).take (l.length * 4)=Stps l
theorem Stps_one:∀ {l:List Stp},∀ v ∈ Stps l,v.one=true:=fun {l} v hv=>by
 obtain ⟨s,_,hs⟩:=List.mem_flatMap.1 hv
 simp only [Stp.cells,List.mem_cons,List.not_mem_nil,or_false] at hs
 rcases hs with rfl | rfl | rfl | rfl <;> rfl
theorem StAt.sn {H:Heap} {v:V} {l:List Stp} (h:StAt H v l) {id:Nat} {f:Nat→R}:vSliceN id v (fun _ _ len _ _=>f len) (f 0)=f l.length:=by
 rcases h with ⟨rfl | ⟨_,_,_,_,rfl⟩,rfl⟩ | ⟨_,_,_,_,_,rfl,_⟩ <;> rfl
theorem StAt.one {H:Heap} {v:V} {l:List Stp} (h:StAt H v l):v.one=true:=by
 rcases h with ⟨rfl | ⟨_,_,_,_,rfl⟩,rfl⟩ | ⟨_,_,_,_,_,rfl,_⟩ <;> rfl
theorem StAt.fresh {H G:Heap} {v:V} {l:List Stp} (h:StAt H v l) (f:Fresh H G):StAt G v l:=by
 rcases h with h | ⟨b,o,c,s,row,h1,h2,h3,h4,h5⟩
 ·exact Or.inl h
 ·exact Or.inr ⟨b,o,c,s,row,h1,by rw [f.same b h3];exact h2,Nat.lt_of_lt_of_le h3 f.n,h4,h5⟩
theorem Gr.stAt {H G:Heap} {v:V} {l:List Stp} (h:Gr H G v 4 l.length (Stps l)):StAt G v l:=by
 obtain ⟨zr1,zr2,⟨rfl,zr3⟩ | ⟨b,c,sz,rfl,zr3,zr4,zr5,zr6,zr7⟩⟩:=h
 ·exact Or.inl ⟨Or.inl rfl,List.eq_nil_of_length_eq_zero zr3⟩
 ·exact Or.inr ⟨b,0,c,sz,_,rfl,Or.inl zr5,zr7,by rw [zr1];omega,by rw [List.drop_zero,List.take_of_length_le (by omega)]⟩
theorem rdN_row {H:Heap} {b o n:Nat} {row l:List V} {id:Nat} {f:List V→R} (hr:isRow (H.get b) row) (hl:o+n≤row.length) (he:(row.drop o).take n=l) (h1:∀ v ∈ l,v.one=true):rdN id H b o n f=f l:=by
 rw [rdN_on]
 rcases hr with hr | hr
 ·rw [hr,rdNB_cells,dropN_eq (by omega),takeN_eq (by rw [List.length_drop];omega),he]
 ·rw [hr,rdNB_view,dropN_eq (by omega),takeN_eq (by rw [List.length_drop];omega),he]
  exact allOne_all h1
section
variable {t:Nat→Option FnE} {cp:RC→CodeE} {fuel d:Nat} {H:Heap} {k:K}
theorem print_call (hp:t 8=some (.nat nPrint)) {v:V} {l:List Stp} (h:StAt H v l) (hl:l.length≤1000000) (hok:∀ s ∈ l,StOK s):callP (evP cp t fuel (d+1)) (.func 16 []) [v] H k=k (.tup [tv (printP l).1, .int 3 (printP l).2]) H:=by
 rw [call_nat hp rfl rfl]
 have h0:k (.tup [.str 0 0, .int 3 0]) H=k (.tup [tv (printP []).1, .int 3 (printP []).2]) H:=rfl
 rcases h with ⟨rfl | ⟨_,_,_,_,rfl⟩,rfl⟩ | ⟨b,o,c,s,row,rfl,h2,h3,h4,h5⟩
 ·rfl
 ·rfl
 ·show (if l.length=0 then k (.tup [.str 0 0, .int 3 0]) H else if l.length≤1000000 then rdN 0 H b o (l.length * 4) (fun l=>match stepsOf l with
   | some ss=>if ss.all (fun s=>decide (s.d.length<9223372036854775808))=true then k (.tup [tv (printP ss).1, .int 3 (printP ss).2]) H else no 0
   | none=>no 0) else no 0)=_
  by_cases hl0:l.length=0
  ·rw [if_pos hl0,List.eq_nil_of_length_eq_zero hl0]
   rfl
  ·rw [if_neg hl0,if_pos hl,rdN_row h2 h4 h5 Stps_one,stepsOf_Stps]
   show (if l.all (fun s=>decide (s.d.length<9223372036854775808))=true then _ else _)=_
   rw [if_pos (List.all_eq_true.2 fun s hs=>decide_eq_true (hok s hs).d)]
end
end Go.Ev
end
section
namespace Go.Ev
section
variable {id:Nat} {ph:Phi} {e:Env} {H:Heap} {k:K}
theorem eqCs_nil {f:Bool→R}:eqCs id [] [] [] f=f true:=Eq.trans rfl rfl
theorem eqCs_int {q a b:Nat} {cls:List Nat} {l m:List V} {f:Bool→R}:eqCs id (1 :: cls) (.int q a :: l) (.int q b :: m) f=if a=b then eqCs id cls l m f else f false:=by
 show ifB (Nat.beq q q) (ifB (Nat.beq a b) (eqCs id cls l m f) (f false)) (no 0)=_
 simp only [ifB_if,nbeq,if_true]
theorem eqCs_str {a b:List UInt8} {cls:List Nat} {l m:List V} {f:Bool→R}:eqCs id (2 :: cls) (tv a :: l) (tv b :: m) f=if a=b then eqCs id cls l m f else f false:=by
 show ifB (Nat.beq a.length b.length) (ifB (Nat.beq (enc a) (enc b)) (eqCs id cls l m f) (f false)) (f false)=_
 simp only [ifB_if,nbeq]
 by_cases h:a=b
 ·subst h
  simp only [if_true]
 ·rw [if_neg h]
  split
  ·rename_i h1
   split
   ·rename_i h2
    exact absurd (tv_inj (by simp only [tv,h1,h2])) h
   ·rfl
  ·rfl
theorem eqCs_stp {s s':Stp} {f:Bool→R}:eqCs id [1,1,1,2] s.cells s'.cells f=f (decide (s=s')):=by
 obtain ⟨k,a,b,d⟩:=s
 obtain ⟨k',a',b',d'⟩:=s'
 simp only [Stp.cells,eqCs_int,eqCs_str,eqCs_nil]
 by_cases h1:k=k'
 ·by_cases h2:a=a'
  ·by_cases h3:b=b'
   ·by_cases h4:d=d'
    ·simp [h1,h2,h3,h4]
    ·simp [h1,h2,h3,h4]
   ·simp [h1,h2,h3]
  ·simp [h1,h2]
 ·simp [h1]
theorem op_aggEqS {neg:Bool} {x y:Arg} {s s':Stp} (h1:pgetA x e = .agg s.cells) (h2:pgetA y e = .agg s'.cells):evOp (.aggEq [1,1,1,2] neg x y) id ph e H k=k (.bool (if s=s' then !neg else neg)) H:=by
 show getA x e (fun x=>vAgg id x fun l=>getA y e fun y=>vAgg id y fun m=>ifB (Nat.beq (lenL l) (lenNs [1,1,1,2])) (ifB (Nat.beq (lenL m) (lenNs [1,1,1,2])) (eqCs id [1,1,1,2] l m fun b=>ifB b (ifB neg (k (.bool false) H) (k (.bool true) H)) (k (.bool neg) H)) (no 0)) (no 0))=_
 rw [getA_eq,h1]
 show getA y e (fun y=>vAgg id y fun m=>ifB (Nat.beq (lenL s.cells) (lenNs [1,1,1,2])) (ifB (Nat.beq (lenL m) (lenNs [1,1,1,2])) (eqCs id [1,1,1,2] s.cells m fun b=>ifB b (ifB neg (k (.bool false) H) (k (.bool true) H)) (k (.bool neg) H)) (no 0)) (no 0))=_
 rw [getA_eq,h2]
 show eqCs id [1,1,1,2] s.cells s'.cells (fun b=>ifB b (ifB neg (k (.bool false) H) (k (.bool true) H)) (k (.bool neg) H))=_
 rw [eqCs_stp]
 by_cases h:s=s'
 ·rw [decide_eq_true h,if_pos h]
  cases neg <;> rfl
 ·rw [decide_eq_false h,if_neg h]
  rfl
end
theorem StAt.four {H:Heap} {v:V} {l:List Stp} (h:StAt H v l) {i:Nat} {s:Stp} (hi:l[i]? = some s):∃ b o c z,v = .slice b o l.length c z ∧ ∀ {id:Nat} {f:List V→R},rdNB id (H.get b) (o+i * 4) 4 f=f s.cells:=by
 have hl:i<l.length:=by
  rcases Nat.lt_or_ge i l.length with h | h
  ·exact h
  ·rw [List.getElem?_eq_none h] at hi;cases hi
 rcases h with ⟨_,rfl⟩ | ⟨b,o,c,z,row,rfl,h2,h3,h4,h5⟩
 ·simp at hl
 ·refine ⟨b,o,c,z,rfl,fun {id f} => ?_⟩
  rw [← rdN_on]
  refine rdN_row (l:=s.cells) h2 (by omega) ?_ ?_
  ·have hsplit:l=l.take i ++ (s :: l.drop (i+1)):=by
    obtain ⟨h8,h9⟩:=List.getElem?_eq_some_iff.1 hi
    have:=List.drop_eq_getElem_cons h8
    rw [h9] at this
    rw [← this,List.take_append_drop]
   have hS:Stps l=Stps (l.take i) ++ (s.cells ++ Stps (l.drop (i+1))):=by
    conv=>lhs;rw [hsplit]
    simp only [Stps,List.flatMap_append,List.flatMap_cons]
   have h6:(Stps (l.take i)).length=i * 4:=by rw [Stps_len,List.length_take,Nat.min_eq_left (by omega)]
   have h7:((row.drop o).take (l.length * 4)).drop (i * 4)=s.cells ++ Stps (l.drop (i+1)):=by rw [h5,hS,← h6,List.drop_left]
   have h8:(((row.drop o).take (l.length * 4)).drop (i * 4)).take 4=s.cells:=by rw [h7];rfl
   rw [List.drop_take,List.take_take,List.drop_drop] at h8
   rw [← h8,Nat.min_eq_left (by omega)]
  ·intro v hv
   simp only [Stp.cells,List.mem_cons,List.not_mem_nil,or_false] at hv
   rcases hv with rfl | rfl | rfl | rfl <;> rfl
section
variable {t:Nat→Option FnE} {cp:RC→CodeE} {fuel:Nat} {H:Heap}
theorem alike_loop (T:TCode t) {v w:V} {es fs:List Stp} (hl:StAt H v es) (hq:StAt H w fs) (hw:H.wf) (hlen:fs.length=es.length) (hn:es.length<1000000) :
  ∀ (m i:Nat),i+m=es.length→es.take i=fs.take i → ∀ (ph:Phi) (kx:Nat→KE) (r:Nat) (e:Env),m<r→pget ⟨.i0, .i0, .i0⟩ e=v→pget ⟨.i0, .i0, .i1⟩ e=w→pget ⟨.i0, .i0, .i5⟩ e = .int 3 i →
   ∀ x:R,(es=fs → ∀ e',kx 1 e' H=x)→(es≠fs → ∀ e',pget ⟨.i0, .i0, .i4⟩ e' = .bool false→kx 0 e' H=x) →
   evL c15l0 fuel ph kx r e H=x:=by
 have hs:=fun {id:Nat} {f:Nat→R}=>hl.sn (id:=id) (f:=f)
 intro m
 induction m with
 | zero=>
  intro i hi ht ph kx r e hr h0 h1 h5 x hY hN
  obtain ⟨r,rfl⟩:∃ q,r=q+1:=⟨r-1,by omega⟩
  obtain rfl:i=es.length:=by omega
  have e1:¬ es.length<es.length:=by omega
  have e2:nn es.length:=by unfold nn;omega
  have e8:es.length<9223372036854775808:=by omega
  rw [evL_succ]
  simp only [go_sem,↓op_app,reduceCtorEq,Nat.reduceAdd,Nat.reduceSub,Nat.reduceMul,Nat.reduceEqDiff,Nat.reduceLT,Nat.reduceDiv,Nat.reduceMod,Nat.reduceLeDiff,↓reduceIte,c15l0,h0,h1,h5,↓hs,e1,e2,e8]
  refine hY ?_ _
  rwa [List.take_of_length_le (by omega),List.take_of_length_le (by omega)] at ht
 | succ m ih=>
  intro i hi ht ph kx r e hr h0 h1 h5 x hY hN
  obtain ⟨r,rfl⟩:∃ q,r=q+1:=⟨r-1,by omega⟩
  have hlt:i<es.length:=by omega
  have g1:es[i]? = some es[i]:=List.getElem?_eq_getElem hlt
  have g2:fs[i]? = some fs[i]:=List.getElem?_eq_getElem (by omega)
  obtain ⟨b,o,c,s,hv,zr1⟩:=hl.four g1
  obtain ⟨b',o',c',s',hv',zr2⟩:=hq.four g2
  rw [hlen] at hv'
  have e1:nn i:=by unfold nn;omega
  have e2:nn es.length:=by unfold nn;omega
  have e3:i<9223372036854775808:=by omega
  have e8:es.length<9223372036854775808:=by omega
  have e9:(i+1) % 18446744073709551616=i+1:=by omega
  have hst:es[i]=fs[i]→es.take (i+1)=fs.take (i+1):=fun he=>by
   rw [List.take_succ_eq_append_getElem hlt,List.take_succ_eq_append_getElem (by omega),ht,he]
  have hne:es[i]≠fs[i]→es≠fs:=fun he h=>he (by subst h;rfl)
  generalize es[i]=ea at zr1 hst hne
  generalize fs[i]=eb at zr2 hst hne
  subst hv
  rw [hv'] at h1
  have z:∀ {id:Nat} {ph:Phi} {e':Env} {H:Heap} {k:K},pgetA (.s ⟨.i0, .i2, .i4⟩) e' = .agg ea.cells→pgetA (.s ⟨.i0, .i3, .i0⟩) e' = .agg eb.cells→evOp (.aggEq [1,1,1,2] true (.s ⟨.i0, .i2, .i4⟩) (.s ⟨.i0, .i3, .i0⟩)) id ph e' H k=k (.bool (if ea=eb then !true else true)) H:=fun {id ph e' H k} p q=>op_aggEqS p q
  rw [evL_succ]
  by_cases q1:ea=eb
  ·rw [if_pos q1] at z
   simp only [go_sem,↓op_app,reduceCtorEq,Nat.reduceAdd,Nat.reduceSub,Nat.reduceMul,Nat.reduceEqDiff,Nat.reduceLT,Nat.reduceDiv,Nat.reduceMod,Nat.reduceLeDiff,↓reduceIte,c15l0,h0,h1,h5,hlt,e1,e2,e3,e8,e9,zr1,zr2,hw,↓z]
   refine ih (i+1) (by omega) (hst q1) ph kx r _ (by omega) ?_ ?_ ?_ x hY hN
   ·simp only [go_sem,reduceCtorEq,↓reduceIte,h0]
   ·simp only [go_sem,↓op_app,reduceCtorEq,Nat.reduceAdd,Nat.reduceSub,Nat.reduceMul,Nat.reduceEqDiff,Nat.reduceLT,Nat.reduceDiv,Nat.reduceMod,Nat.reduceLeDiff,↓reduceIte,h1,hv']
   ·simp only [go_sem,reduceCtorEq,↓reduceIte]
  ·rw [if_neg q1] at z
   simp only [go_sem,↓op_app,reduceCtorEq,Nat.reduceAdd,Nat.reduceSub,Nat.reduceMul,Nat.reduceEqDiff,Nat.reduceLT,Nat.reduceDiv,Nat.reduceMod,Nat.reduceLeDiff,↓reduceIte,c15l0,h0,h1,h5,hlt,e1,e2,e3,e8,e9,zr1,zr2,hw,↓z]
   exact hN (hne q1) _ (by simp only [go_sem,reduceCtorEq,↓reduceIte])
theorem alike_call (T:TCode t) {v w:V} {es fs:List Stp} (hw:H.wf) (hl:StAt H v es) (hq:StAt H w fs) (hn:es.length<1000000) (hm:fs.length<1000000) (hfu:1000001<fuel) (d:Nat) (k:K) :
  callP (evP cp t fuel (d+1)) (.func 30 []) [v,w] H k=k (.bool (decide (es=fs))) H:=by
 have hs:=fun {id:Nat} {f:Nat→R}=>hl.sn (id:=id) (f:=f)
 have hs2:=fun {id:Nat} {f:Nat→R}=>hq.sn (id:=id) (f:=f)
 have e8:es.length<9223372036854775808:=by omega
 have e9:fs.length<9223372036854775808:=by omega
 rw [call_entry T.k15 rfl rfl]
 by_cases hlen:es.length=fs.length
 ·rw [← hlen] at hs2 e9
  simp only [go_sem,↓op_app,reduceCtorEq,Nat.reduceAdd,Nat.reduceSub,Nat.reduceMul,Nat.reduceEqDiff,Nat.reduceLT,Nat.reduceDiv,Nat.reduceMod,Nat.reduceLeDiff,↓reduceIte,c15,↓hs,↓hs2,e8,e9]
  refine alike_loop (H:=H) T hl hq hw hlen.symm hn es.length 0 (by omega) rfl _ _ fuel _ (by omega) ?_ ?_ ?_ _ (fun he e' => ?_) (fun he e' h4 => ?_)
  ·simp only [go_sem,reduceCtorEq,↓reduceIte]
  ·simp only [go_sem,reduceCtorEq,↓reduceIte]
  ·simp only [go_sem,reduceCtorEq,↓reduceIte]
  ·simp only [go_sem,↓op_app,reduceCtorEq,Nat.reduceAdd,Nat.reduceSub,Nat.reduceMul,Nat.reduceEqDiff,Nat.reduceLT,Nat.reduceDiv,Nat.reduceMod,Nat.reduceLeDiff,↓reduceIte,decide_eq_true he]
  ·simp only [go_sem,↓op_app,reduceCtorEq,Nat.reduceAdd,Nat.reduceSub,Nat.reduceMul,Nat.reduceEqDiff,Nat.reduceLT,Nat.reduceDiv,Nat.reduceMod,Nat.reduceLeDiff,↓reduceIte,h4,decide_eq_false he]
 ·have hne:es≠fs:=fun h=>hlen (by rw [h])
  simp only [go_sem,↓op_app,reduceCtorEq,Nat.reduceAdd,Nat.reduceSub,Nat.reduceMul,Nat.reduceEqDiff,Nat.reduceLT,Nat.reduceDiv,Nat.reduceMod,Nat.reduceLeDiff,↓reduceIte,c15,↓hs,↓hs2,e8,e9,hlen,decide_eq_false hne]
end
end Go.Ev
end
section
namespace Go.Ev
def bodyOf (s:Stp):List UInt8:=match kindsT[s.k]? with
 | none => []
 | some r=>r.w ++ (32 :: decD s.a) ++ (if r.b=neg1 then [] else 32 :: decD s.b) ++ (if r.d=true then 32 :: s.d else [])
def wordsOf (r:KRow) (s:Stp):List (List UInt8):=[r.w,decD s.a] ++ (if r.b=neg1 then [] else [decD s.b]) ++ (if r.d=true then [s.d] else [])
def plainB (b:UInt8):Bool := !blankB b && decide (b≠10)
theorem digit_plain:∀ n,n<10→plainB (UInt8.ofNat (48+n))=true:=by decide
theorem decD_plain {n:Nat} (h:n<10000):(∀ b ∈ decD n,plainB b=true)∧decD n≠[]:=by
 unfold decD
 have h1:=digit_plain (n % 10) (by omega)
 have h2:=digit_plain (n / 10 % 10) (by omega)
 have h3:=digit_plain (n / 100 % 10) (by omega)
 split
 ·refine ⟨fun b hb => ?_,by simp⟩
  rw [List.mem_singleton] at hb;subst hb
  exact digit_plain n (by omega)
 ·split
  ·refine ⟨fun b hb => ?_,by simp⟩
   simp only [List.mem_cons,List.not_mem_nil,or_false] at hb
   rcases hb with rfl | rfl
   ·exact digit_plain (n / 10) (by omega)
   ·exact h1
  ·split
   ·refine ⟨fun b hb => ?_,by simp⟩
    simp only [List.mem_cons,List.not_mem_nil,or_false] at hb
    rcases hb with rfl | rfl | rfl
    ·exact digit_plain (n / 100) (by omega)
    ·exact h2
    ·exact h1
   ·refine ⟨fun b hb => ?_,by simp⟩
    simp only [List.mem_cons,List.not_mem_nil,or_false] at hb
    rcases hb with rfl | rfl | rfl | rfl
    ·exact digit_plain (n / 1000) (by omega)
    ·exact h3
    ·exact h2
    ·exact h1
theorem fieldsGo_word:∀ (w rest cur:List UInt8),(∀ b ∈ w,plainB b=true)→cur ++ w≠[]→fieldsGo (w ++ 32 :: rest) cur=(cur ++ w) :: fieldsGo rest []
 | [],rest,cur,_,hn=>by
  rw [List.append_nil] at hn
  rw [List.nil_append,fieldsGo,if_pos (by decide),if_neg hn,List.append_nil]
 | b :: w,rest,cur,hp,hn=>by
  have hb:=hp b (List.mem_cons_self ..)
  have hb':blankB b=false:=by simp [plainB] at hb;exact hb.1
  rw [List.cons_append,fieldsGo,hb',if_neg (by simp),fieldsGo_word w rest (cur ++ [b]) (fun x hx=>hp x (List.mem_cons_of_mem _ hx)) (by simp),List.append_assoc]
  rfl
theorem fieldsGo_last:∀ (w cur:List UInt8),(∀ b ∈ w,plainB b=true)→cur ++ w≠[]→fieldsGo w cur=[cur ++ w]
 | [],cur,_,hn=>by
  rw [List.append_nil] at hn
  rw [fieldsGo,if_neg hn,List.append_nil]
 | b :: w,cur,hp,hn=>by
  have hb:=hp b (List.mem_cons_self ..)
  have hb':blankB b=false:=by simp [plainB] at hb;exact hb.1
  rw [fieldsGo,hb',if_neg (by simp),fieldsGo_last w (cur ++ [b]) (fun x hx=>hp x (List.mem_cons_of_mem _ hx)) (by simp),List.append_assoc]
  rfl
theorem kinds_plain:∀ r ∈ kindsT,(∀ b ∈ r.w,plainB b=true)∧r.w≠[]∧r.w.headD 0≠35:=by decide
theorem kindB_at:∀ i r,kindsT[i]? = some r→kindB r.w=some (i,r)
 | 0,r,h=>by cases h;rfl
 | 1,r,h=>by cases h;rfl
 | 2,r,h=>by cases h;rfl
 | 3,r,h=>by cases h;rfl
 | 4,r,h=>by cases h;rfl
 | 5,r,h=>by cases h;rfl
 | 6,r,h=>by cases h;rfl
 | 7,r,h=>by cases h;rfl
 | 8,r,h=>by cases h;rfl
 | 9,r,h=>by cases h;rfl
 | 10,r,h=>by cases h;rfl
 | 11,r,h=>by cases h;rfl
 | n+12,r,h=>by simp [kindsT] at h
theorem odd_plain {b:UInt8} (h:oddB b=false):plainB b=true:=by
 simp [oddB] at h
 simp [plainB,blankB]
 refine ⟨⟨by omega,by omega⟩,fun e => ?_⟩
 subst e
 simp at h
structure MayD (r:KRow) (s:Stp):Prop where
 a:s.a<10000
 b:r.b≠neg1→s.b<10000
 b0:r.b=neg1→s.b=0
 d:r.d=true→(∀ x ∈ s.d,plainB x=true)∧s.d≠[]∧s.d.length≤32
 d0:r.d≠true→s.d=[]
theorem within_le {n m:Nat} (h:within n m=true):n≤(if m<9223372036854775808 then m else 0):=by
 simp [within] at h
 exact h.2
theorem mayB_d {r:KRow} {s:Stp} (hr:r ∈ kindsT) (h:mayB r s=true):MayD r s:=by
 obtain ⟨k1,k2⟩:=kinds_ok r hr
 simp only [mayB,Bool.and_eq_true] at h
 obtain ⟨⟨h1,h2⟩,h3⟩:=h
 have h2:=within_le h2
 have h3:=within_le h3
 refine ⟨?_,fun hb => ?_,fun hb => ?_,fun hd => ?_,fun hd => ?_⟩
 ·split at h2 <;> omega
 ·rcases k2 with k2 | k2
  ·exact absurd k2 hb
  ·split at h3 <;> omega
 ·rw [hb,if_neg (by decide)] at h3
  omega
 ·rw [if_pos hd] at h1
  simp only [Bool.and_eq_true,decide_eq_true_eq,Bool.not_eq_true'] at h1
  obtain ⟨⟨h4,h5⟩,h6⟩:=h1
  refine ⟨fun x hx=>odd_plain ?_,h4,h5⟩
  rw [List.any_eq_false] at h6
  simpa using h6 x hx
 ·rw [if_neg hd] at h1
  simpa using h1
theorem mayS_row {s:Stp} (h:mayS s=true):∃ r,kindsT[s.k]? = some r∧r ∈ kindsT∧mayB r s=true∧MayD r s:=by
 unfold mayS at h
 cases hr:kindsT[s.k]? with
 | none=>rw [hr] at h;cases h
 | some r=>
  rw [hr] at h
  have hm:=List.mem_of_getElem? hr
  exact ⟨r,rfl,hm,h,mayB_d hm h⟩
theorem lineOf_body {s:Stp} (h:mayS s=true):lineOf s=bodyOf s ++ [10]:=by
 obtain ⟨r,hr,_⟩:=mayS_row h
 simp only [lineOf,bodyOf,hr]
theorem body_fields {s:Stp} {r:KRow} (hr:kindsT[s.k]? = some r) (hm:r ∈ kindsT) (h:MayD r s):fieldsP (bodyOf s)=wordsOf r s:=by
 obtain ⟨p1,p2,_⟩:=kinds_plain r hm
 obtain ⟨a1,a2⟩:=decD_plain h.a
 have e1:∀ x,fieldsGo (r.w ++ 32 :: x) []=r.w :: fieldsGo x []:=fun x=>by rw [fieldsGo_word r.w x [] p1 (by simpa using p2)];rfl
 have e2:∀ x,fieldsGo (decD s.a ++ 32 :: x) []=decD s.a :: fieldsGo x []:=fun x=>by rw [fieldsGo_word _ x [] a1 (by simpa using a2)];rfl
 have e3:fieldsGo (decD s.a) []=[decD s.a]:=by rw [fieldsGo_last _ [] a1 (by simpa using a2)];rfl
 show fieldsGo (bodyOf s) []=_
 simp only [bodyOf,hr,wordsOf]
 by_cases hb:r.b=neg1
 ·rw [if_pos hb,if_pos hb]
  by_cases hd:r.d=true
  ·obtain ⟨d1,d2,_⟩:=h.d hd
   rw [if_pos hd,if_pos hd]
   simp only [List.append_nil,List.append_assoc,List.cons_append]
   rw [e1,e2,fieldsGo_last _ [] d1 (by simpa using d2)] <;> rfl
  ·rw [if_neg hd,if_neg hd]
   simp only [List.append_nil,List.append_assoc,List.cons_append]
   rw [e1,e3] <;> rfl
 ·obtain ⟨b1,b2⟩:=decD_plain (h.b hb)
  rw [if_neg hb,if_neg hb]
  by_cases hd:r.d=true
  ·obtain ⟨d1,d2,_⟩:=h.d hd
   rw [if_pos hd,if_pos hd]
   simp only [List.append_nil,List.append_assoc,List.cons_append]
   rw [e1,e2,fieldsGo_word _ _ [] b1 (by simpa using b2),fieldsGo_last _ [] d1 (by simpa using d2)] <;> rfl
  ·rw [if_neg hd,if_neg hd]
   simp only [List.append_nil,List.append_assoc,List.cons_append]
   rw [e1,e2,fieldsGo_last _ [] b1 (by simpa using b2)] <;> rfl
theorem step_words {num:List UInt8→Nat} (N:NumOK num) {s:Stp} {r:KRow} (hr:kindsT[s.k]? = some r) (hm:r ∈ kindsT) (hb:mayB r s=true) (h:MayD r s):stepP num (wordsOf r s)=(s,0):=by
 have hk:=kindB_at s.k r hr
 have n1:num (decD s.a)=s.a:=(N.is _ _ h.a).2 rfl
 have hw:wordsOf r s=r.w :: decD s.a :: ((if r.b=neg1 then [] else [decD s.b]) ++ (if r.d=true then [s.d] else [])):=rfl
 obtain ⟨k,a,b,d⟩:=s
 unfold stepP
 rw [hw,show kindB ((r.w :: decD a :: ((if r.b=neg1 then [] else [decD b]) ++ (if r.d=true then [d] else []))).headD [])=some (k,r) from hk]
 simp only [List.tail_cons,List.headD_cons]
 simp only [] at n1
 by_cases h1:r.b=neg1
 ·have hb0:b=0:=h.b0 h1
  simp only [if_pos h1,List.nil_append]
  by_cases h2:r.d=true
  ·simp only [if_pos h2,List.headD_cons,List.tail_cons,n1]
   subst hb0
   rw [if_pos ⟨trivial,hb⟩]
  ·have hd0:d=[]:=h.d0 h2
   simp only [if_neg h2,n1]
   subst hb0
   subst hd0
   rw [if_pos ⟨trivial,hb⟩]
 ·have n2:num (decD b)=b:=(N.is _ _ (h.b h1)).2 rfl
  simp only [if_neg h1,List.cons_append,List.nil_append,List.headD_cons,List.tail_cons]
  by_cases h2:r.d=true
  ·simp only [if_pos h2,List.headD_cons,List.tail_cons,n1,n2]
   rw [if_pos ⟨trivial,hb⟩]
  ·have hd0:d=[]:=h.d0 h2
   simp only [if_neg h2,n1,n2]
   subst hd0
   rw [if_pos ⟨trivial,hb⟩]
end Go.Ev
end
section
namespace Go.Ev
theorem linesP_last:∀ (w:List UInt8),(∀ b ∈ w,b≠10)→linesP w=[w]
 | [],_=>rfl
 | b :: w,h=>by
  rw [linesP,if_neg (h b (List.mem_cons_self ..)),linesP_last w fun x hx=>h x (List.mem_cons_of_mem _ hx)]
theorem linesP_line:∀ (w rest:List UInt8),(∀ b ∈ w,b≠10)→linesP (w ++ 10 :: rest)=w :: linesP rest
 | [],rest,_=>by rw [List.nil_append,linesP,if_pos rfl]
 | b :: w,rest,h=>by
  rw [List.cons_append,linesP,if_neg (h b (List.mem_cons_self ..)),linesP_line w rest fun x hx=>h x (List.mem_cons_of_mem _ hx)]
theorem plain_ne {w:List UInt8} (h:∀ b ∈ w,plainB b=true):∀ b ∈ w,b≠10:=fun b hb=>by
 have:=h b hb
 simp [plainB] at this
 exact this.2
theorem body_ne {s:Stp} (h:mayS s=true):∀ b ∈ bodyOf s,b≠10:=by
 obtain ⟨r,hr,hm,_,D⟩:=mayS_row h
 have p1:=plain_ne (kinds_plain r hm).1
 have p2:=plain_ne (decD_plain D.a).1
 intro b hb
 simp only [bodyOf,hr,List.mem_append] at hb
 rcases hb with ((hb | hb) | hb) | hb
 ·exact p1 b hb
 ·rcases List.mem_cons.1 hb with rfl | hb
  ·decide
  ·exact p2 b hb
 ·split at hb
  ·cases hb
  ·rename_i h1
   rcases List.mem_cons.1 hb with rfl | hb
   ·decide
   ·exact plain_ne (decD_plain (D.b h1)).1 b hb
 ·split at hb
  ·rename_i h1
   rcases List.mem_cons.1 hb with rfl | hb
   ·decide
   ·exact plain_ne (D.d h1).1 b hb
  ·cases hb
theorem body_line {num:List UInt8→Nat} (N:NumOK num) {s:Stp} (h:mayS s=true):lineP (bodyOf s)=some (fieldsP (bodyOf s))∧stepP num (fieldsP (bodyOf s))=(s,0):=by
 obtain ⟨r,hr,hm,hb,D⟩:=mayS_row h
 have hf:=body_fields hr hm D
 obtain ⟨_,k2,k3⟩:=kinds_plain r hm
 refine ⟨?_,by rw [hf];exact step_words N hr hm hb D⟩
 unfold lineP
 rw [hf,if_neg]
 rintro (h1 | h1)
 ·simp [wordsOf] at h1
 ·exact k3 h1
theorem parseGo_body {num:List UInt8→Nat} (N:NumOK num) {s:Stp} (h:mayS s=true) (a:Nat) (acc:List Stp) (hacc:acc.length≠4096) (ls:List (List UInt8)):parseGo num (bodyOf s :: ls) a acc=parseGo num ls (a+1) (acc ++ [s]):=by
 obtain ⟨h1,h2⟩:=body_line N h
 simp only [parseGo,h1,h2]
 rw [if_neg (by simp),if_neg hacc]
theorem parse_body {num:List UInt8→Nat} (N:NumOK num) {s:Stp} (h:mayS s=true):parseGo num (linesP (bodyOf s)) 0 [] = .ok [s]:=by
 rw [linesP_last _ (body_ne h),parseGo_body N h 0 [] (by simp)]
 rfl
theorem parseGo_nil (num:List UInt8→Nat) (a:Nat) (acc:List Stp):parseGo num [[]] a acc = .ok acc:=by
 simp only [parseGo]
 have:lineP []=none:=by unfold lineP;rw [if_pos (Or.inl (show fieldsP []=[] from rfl))]
 rw [this]
theorem parse_lines {num:List UInt8→Nat} (N:NumOK num):∀ (l:List Stp) (a:Nat) (acc:List Stp),(∀ s ∈ l,mayS s=true)→acc.length+l.length≤4096→parseGo num (linesP (l.flatMap lineOf)) a acc = .ok (acc ++ l)
 | [],a,acc,_,_=>by
  rw [List.flatMap_nil,List.append_nil]
  exact parseGo_nil num a acc
 | s :: l,a,acc,h,hl=>by
  have hs:=h s (List.mem_cons_self ..)
  simp only [List.length_cons] at hl
  rw [List.flatMap_cons,lineOf_body hs,List.append_assoc]
  show parseGo num (linesP (bodyOf s ++ 10 :: l.flatMap lineOf)) a acc=_
  rw [linesP_line _ _ (body_ne hs),parseGo_body N hs a acc (by omega),parse_lines N l (a+1) (acc ++ [s]) (fun x hx=>h x (List.mem_cons_of_mem _ hx)) (by simp;omega),List.append_assoc]
  rfl
theorem stepP_some {num:List UInt8→Nat} {F:List (List UInt8)} {i:Nat} {r:KRow} (hk:kindB (F.headD [])=some (i,r)):∃ (l3:List (List UInt8)) (s:Stp),s.k=i∧stepP num F=if l3=[]∧mayB r s=true then (s,0) else (stp0,4):=by
 unfold stepP
 rw [hk]
 refine ⟨_,_, ?_,rfl⟩
 rfl
theorem stepP_may {num:List UInt8→Nat} {F:List (List UInt8)} (h:(stepP num F).2=0):mayS (stepP num F).1=true:=by
 cases hk:kindB (F.headD []) with
 | none=>
  unfold stepP at h
  rw [hk] at h
  cases h
 | some p=>
  obtain ⟨i,r⟩:=p
  obtain ⟨l3,s,hs,he⟩:=stepP_some (num:=num) hk
  rw [he] at h ⊢
  by_cases hc:l3=[]∧mayB r s=true
  ·rw [if_pos hc]
   obtain ⟨_,_,_,h4,_⟩:=findK_mem kindsT 0 _ i r hk
   rw [Nat.sub_zero] at h4
   unfold mayS
   rw [show ((s,0):Stp × Nat).1=s from rfl,hs,h4]
   exact hc.2
  ·rw [if_neg hc] at h
   cases h
theorem parseGo_may {num:List UInt8→Nat}:∀ (ls:List (List UInt8)) (a:Nat) (acc out:List Stp),(∀ s ∈ acc,mayS s=true)→parseGo num ls a acc = .ok out → ∀ s ∈ out,mayS s=true
 | [],a,acc,out,h,ho=>by cases ho;exact h
 | l :: ls,a,acc,out,h,ho=>by
  simp only [parseGo] at ho
  cases hl:lineP l with
  | none=>rw [hl] at ho;exact parseGo_may ls _ _ _ h ho
  | some F=>
   rw [hl] at ho
   simp only [] at ho
   split at ho
   ·cases ho
   ·rename_i h1
    split at ho
    ·cases ho
    ·refine parseGo_may ls _ _ _ (fun s hs => ?_) ho
     rcases List.mem_append.1 hs with hs | hs
     ·exact h s hs
     ·rw [List.mem_singleton] at hs
      subst hs
      exact stepP_may (by omega)
end Go.Ev
end
section
namespace Go.Ev
def nWorks (args:List V) (H:Heap) (k:K):R:=match args with
 | []=>k (.bool true) H
 | _=>no 0
def CapOK (v:V):Prop:=v = .nils ∨ ∃ b o n c z,v = .slice b o n c z∧n+1≤c
theorem printP_one {s:Stp}:printP [s]=if mayS s=true then (lineOf s,0) else ([],2):=by
 unfold printP
 rw [if_neg (by simp)]
 by_cases h:mayS s=true
 ·rw [if_pos (by simp [h]),if_pos h]
  simp
 ·rw [if_neg (by simp [h]),if_neg h]
theorem StAt.one_of {H:Heap} {b o c z:Nat} {l:List Stp} (h:StAt H (.slice b o l.length c z) l) {i:Nat} {s:Stp} (hi:l[i]? = some s) (c' z':Nat):StAt H (.slice b (o+i * 4) 1 c' z') [s]:=by
 have hl:i<l.length:=by
  rcases Nat.lt_or_ge i l.length with h | h
  ·exact h
  ·rw [List.getElem?_eq_none h] at hi;cases hi
 rcases h with ⟨_,rfl⟩ | ⟨b',o',zc1,z1,row,he,h2,h3,h4,h5⟩
 ·simp at hl
 ·cases he
  refine Or.inr ⟨b,o+i * 4,c',z',row,rfl,h2,h3,by simp;omega, ?_⟩
  have hsplit:l=l.take i ++ (s :: l.drop (i+1)):=by
   obtain ⟨h8,h9⟩:=List.getElem?_eq_some_iff.1 hi
   have:=List.drop_eq_getElem_cons h8
   rw [h9] at this
   rw [← this,List.take_append_drop]
  have hS:Stps l=Stps (l.take i) ++ (s.cells ++ Stps (l.drop (i+1))):=by
   conv=>lhs;rw [hsplit]
   simp only [Stps,List.flatMap_append,List.flatMap_cons]
  have h6:(Stps (l.take i)).length=i * 4:=by rw [Stps_len,List.length_take,Nat.min_eq_left (by omega)]
  have h7:((row.drop o).take (l.length * 4)).drop (i * 4)=s.cells ++ Stps (l.drop (i+1)):=by rw [h5,hS,← h6,List.drop_left]
  have h8:(((row.drop o).take (l.length * 4)).drop (i * 4)).take 4=s.cells:=by rw [h7];rfl
  rw [List.drop_take,List.take_take,List.drop_drop] at h8
  have h9:Stps [s]=s.cells:=by simp [Stps]
  rw [h9,← h8,Nat.min_eq_left (by omega)]
  rfl
section
variable {t:Nat→Option FnE} {cp:RC→CodeE} {fuel:Nat} {H:Heap} {dec:List UInt8→Nat × Nat} {num:List UInt8→Nat}
theorem works_call (hwk:t 10=some (.nat nWorks)) {d:Nat} {k:K} {G:Heap}:callP (evP cp t fuel (d+1)) (.func 20 []) [] G k=k (.bool true) G:=by
 rw [call_nat hwk rfl rfl]
 rfl
end
end Go.Ev
end
section
namespace Go.Ev
theorem enc_byte {s:List UInt8} {i:Nat} {b:UInt8} (h:s[i]? = some b):enc s >>> (8 * i) &&& 255=b.toNat:=by
 obtain ⟨h1,h2⟩:=List.getElem?_eq_some_iff.1 h
 rw [enc_at s i h1,h2]
theorem drop_get {s:List UInt8} {i:Nat} {b:UInt8} {l:List UInt8} (h:s.drop i=b :: l):s[i]? = some b∧i<s.length∧s.drop (i+1)=l:=by
 obtain ⟨h1,h2⟩:=drop_step h
 refine ⟨h1, ?_,h2⟩
 rcases Nat.lt_or_ge i s.length with h | h
 ·exact h
 ·rw [List.getElem?_eq_none h] at h1;cases h1
section
variable {t:Nat→Option FnE} {cp:RC→CodeE} {fuel:Nat} {H:Heap} {dec:List UInt8→Nat × Nat} {num:List UInt8→Nat}
end
end Go.Ev
end
section
namespace Go.Ev
theorem decD_len (n:Nat):(decD n).length≤4:=by
 unfold decD
 split
 ·simp
 ·split
  ·simp
  ·split <;> simp
theorem kinds_len:∀ r ∈ kindsT,r.w.length≤7:=by decide
theorem lineOf_len {s:Stp} (h:mayS s=true):(lineOf s).length≤100:=by
 obtain ⟨r,hr,hm,_,D⟩:=mayS_row h
 have h1:=kinds_len r hm
 have h2:=decD_len s.a
 have h3:=decD_len s.b
 simp only [lineOf,hr,List.length_append,List.length_cons,List.length_nil]
 have h4:(if r.b=neg1 then ([]:List UInt8) else 32 :: decD s.b).length≤5:=by
  split
  ·simp
  ·simp;omega
 have h5:(if r.d=true then 32 :: s.d else ([]:List UInt8)).length≤33:=by
  split
  ·rename_i hd
   have:=(D.d hd).2.2
   simp;omega
  ·simp
 omega
theorem lines_lenP:∀ (l:List Stp),(∀ s ∈ l,mayS s=true)→(l.flatMap lineOf).length≤l.length * 100
 | [],_=>by simp
 | s :: l,h=>by
  have h1:=lineOf_len (h s (List.mem_cons_self ..))
  have h2:=lines_lenP l fun x hx=>h x (List.mem_cons_of_mem _ hx)
  rw [List.flatMap_cons,List.length_append,List.length_cons]
  omega
theorem printP_ok {l:List Stp} (h:∀ s ∈ l,mayS s=true) (hl:l.length≤4096):printP l=(l.flatMap lineOf,0):=by
 unfold printP
 rw [if_neg (by omega),if_pos (by rw [List.all_eq_true];exact h)]
theorem printP_bad {l:List Stp} (h:∃ s ∈ l,mayS s≠true) (hl:l.length≤4096):printP l=([],2):=by
 unfold printP
 rw [if_neg (by omega),if_neg]
 intro h1
 rw [List.all_eq_true] at h1
 obtain ⟨s,h2,h3⟩:=h
 exact h3 (h1 s h2)
theorem StAt.take {H:Heap} {b o c z:Nat} {l:List Stp} (h:StAt H (.slice b o l.length c z) l) {q:Nat} (hq:q≤l.length) (c' z':Nat):StAt H (.slice b o q c' z') (l.take q):=by
 have hl:(l.take q).length=q:=by rw [List.length_take];omega
 rcases h with ⟨_,rfl⟩ | ⟨b',o',zc1,z1,row,he,h2,h3,h4,h5⟩
 ·have:q=0:=by simpa using hq
  subst this
  exact Or.inl ⟨Or.inr ⟨_,_,_,_,rfl⟩,rfl⟩
 ·cases he
  refine Or.inr ⟨b,o,c',z',row,by rw [hl],h2,h3,by rw [hl];omega, ?_⟩
  have hS:Stps l=Stps (l.take q) ++ Stps (l.drop q):=by
   conv=>lhs;rw [← List.take_append_drop q l]
   simp only [Stps,List.flatMap_append]
  have h6:(Stps (l.take q)).length=q * 4:=by rw [Stps_len,hl]
  have h7:((row.drop o).take (l.length * 4)).take (q * 4)=Stps (l.take q):=by rw [h5,hS,← h6,List.take_left]
  rw [List.take_take,Nat.min_eq_left (by omega)] at h7
  rw [hl,h7]
section
variable {t:Nat→Option FnE} {cp:RC→CodeE} {fuel:Nat} {H:Heap} {dec:List UInt8→Nat × Nat} {num:List UInt8→Nat}
end
end Go.Ev
end
section
namespace Go.Ev
theorem bf_rem {id half a b:Nat} {f:Nat→R} (ha:a<half) (hb:b<half) (h0:b≠0):evBF id (.rem half) a b f=f (a % b):=by
 show ifB (Nat.blt a half) (ifB (Nat.blt b half) (ifB (Nat.beq b 0) (no 0) (forceN (Nat.mod a b) f)) (no 0)) (no 0)=_
 rw [ifB_if,if_pos (by rw [Nat.blt_eq];exact ha),ifB_if,if_pos (by rw [Nat.blt_eq];exact hb),ifB_if,if_neg (by rw [nbeq];exact h0),forceN_eq]
 rfl
theorem bf_quo {id half a b:Nat} {f:Nat→R} (ha:a<half) (hb:b<half) (h0:b≠0):evBF id (.quo half) a b f=f (a / b):=by
 show ifB (Nat.blt a half) (ifB (Nat.blt b half) (ifB (Nat.beq b 0) (no 0) (forceN (Nat.div a b) f)) (no 0)) (no 0)=_
 rw [ifB_if,if_pos (by rw [Nat.blt_eq];exact ha),ifB_if,if_pos (by rw [Nat.blt_eq];exact hb),ifB_if,if_neg (by rw [nbeq];exact h0),forceN_eq]
 rfl
theorem decD_split {n:Nat} (h1:10≤n) (h2:n<10000):decD n=decD (n / 10) ++ decD (n % 10):=by
 have a1:n % 10<10:=by omega
 have a2:n / 10 / 10=n / 100:=by omega
 have a3:n / 10 / 100=n / 1000:=by omega
 have a4:n / 10 % 10=n / 10 % 10:=rfl
 have a5:¬ n<10:=by omega
 have a6:n / 10 / 10 % 10=n / 100 % 10:=by omega
 rw [show decD (n % 10)=[UInt8.ofNat (48+n % 10)] by unfold decD;rw [if_pos a1]]
 unfold decD
 rw [if_neg a5]
 by_cases b1:n<100
 ·rw [if_pos b1,if_pos (by omega)]
  rfl
 ·rw [if_neg b1,if_neg (show ¬ n / 10<10 by omega)]
  by_cases b2:n<1000
  ·rw [if_pos b2,if_pos (show n / 10<100 by omega),a2]
   rfl
  ·rw [if_neg b2,if_neg (show ¬ n / 10<100 by omega),if_pos (show n / 10<1000 by omega),a3,a6]
   rfl
section
variable {t:Nat→Option FnE} {cp:RC→CodeE} {fuel:Nat}
theorem digit_one (T:TCode t) {n:Nat} (hn:n<10) {H:Heap} (hw:H.wf):∃ G,Fresh H G ∧ ∀ (d:Nat) (k:K),callP (evP cp t fuel (d+1)) (.func 80 []) [.int 3 n] H k=k (tv (decD n)) G:=by
 refine ⟨_,Fresh.new hw (x := .bytes 1 (48+n)),fun d k => ?_⟩
 have e1:nn n:=by unfold nn;omega
 have e3:n % 256=n:=by omega
 have e4:(48+n) % 256=48+n:=by omega
 have e5:V.str 1 ((48+n) >>> 0 % 256 ^ 1)=tv (decD n):=by
  have h1:decD n=[UInt8.ofNat (48+n)]:=by unfold decD;rw [if_pos hn]
  rw [h1,tv_cons,toNat_ofNat (by omega),Nat.shiftRight_zero]
  simp only [enc,List.length_nil]
  congr 1
 rw [call_entry T.k40 rfl rfl]
 simp only [go_sem,↓op_app,reduceCtorEq,Nat.reduceAdd,Nat.reduceSub,Nat.reduceMul,Nat.reduceEqDiff,Nat.reduceLT,Nat.reduceDiv,Nat.reduceMod,Nat.reduceLeDiff,↓reduceIte,c40,e1,hn,e3,e4,hw,e5]
theorem digits_call (T:TCode t):∀ (q n:Nat),n<10 ^ (q+1)→n<10000 → ∀ (H:Heap),H.wf → ∃ G,Fresh H G ∧ ∀ (d:Nat) (k:K),callP (evP cp t fuel (d+q+1)) (.func 80 []) [.int 3 n] H k=k (tv (decD n)) G:=by
 intro q
 induction q with
 | zero=>exact fun n hn _ H hw=>digit_one T (by omega) hw
 | succ q ih=>
  intro n hn hn2 H hw
  by_cases h10:n<10
  ·obtain ⟨G,f,z⟩:=digit_one (cp:=cp) (fuel:=fuel) T h10 hw
   exact ⟨G,f,fun d k=>z (d+(q+1)) k⟩
  ·have hp:10 ^ (q+1+1)=10 ^ (q+1) * 10:=Nat.pow_succ ..
   have hp1:10≤10 ^ (q+1):=by
    have:0<10 ^ q:=Nat.pow_pos (by decide)
    rw [Nat.pow_succ];omega
   obtain ⟨G1,f1,z1⟩:=ih (n / 10) (by omega) (by omega) H hw
   obtain ⟨G2,f2,z2⟩:=ih (n % 10) (by omega) (by omega) G1 f1.wf
   refine ⟨G2,f1.trans f2,fun d k => ?_⟩
   have e1:nn n:=by unfold nn;omega
   have zr1:∀ {id:Nat} {f:Nat→R},evBF id (.quo 9223372036854775808) n 10 f=f (n / 10):=fun {id f}=>bf_quo (by omega) (by omega) (by omega)
   have zr2:∀ {id:Nat} {f:Nat→R},evBF id (.rem 9223372036854775808) n 10 f=f (n % 10):=fun {id f}=>bf_rem (by omega) (by omega) (by omega)
   have z1':=fun {k:K}=>z1 d k
   have z2':=fun {k:K}=>z2 d k
   have e5:V.str ((decD (n / 10)).length+(decD (n % 10)).length) (enc (decD (n / 10))+enc (decD (n % 10)) * 256 ^ (decD (n / 10)).length)=tv (decD n):=by
    rw [tv_append,← decD_split (by omega) hn2]
   show callP (evP cp t fuel (d+q+1+1)) (.func 80 []) [.int 3 n] H k=_
   rw [call_entry T.k40 rfl rfl]
   simp only [go_sem,↓op_app,reduceCtorEq,Nat.reduceAdd,Nat.reduceSub,Nat.reduceMul,Nat.reduceEqDiff,Nat.reduceLT,Nat.reduceDiv,Nat.reduceMod,Nat.reduceLeDiff,↓reduceIte,c40,e1,h10,zr1,zr2,z1',z2',vStr_tv,hw]
   have h1:=decD_len (n / 10)
   have h2:=decD_len (n % 10)
   rw [if_pos (by omega),e5]
theorem within2_call (T:TCode t) {n m:Nat} {H:Heap} (hn:n<18446744073709551616) (hm:m<18446744073709551616) (d:Nat) (k:K):callP (evP cp t fuel (d+1)) (.func 76 []) [.int 3 n, .int 3 m] H k=k (.bool (within n m)) H:=by
 have e1:=ge0 hn
 have e2:=max0 hm
 have e3:nn (if m<9223372036854775808 then m else 0):=by unfold nn;split <;> omega
 rw [call_entry T.k38 rfl rfl]
 by_cases h:n<9223372036854775808
 ·have e4:nn n:=h
  simp only [go_sem,↓op_app,reduceCtorEq,Nat.reduceAdd,Nat.reduceSub,Nat.reduceMul,Nat.reduceEqDiff,Nat.reduceLT,Nat.reduceDiv,Nat.reduceMod,Nat.reduceLeDiff,↓reduceIte,c38,e1,e2,e3,e4,h]
  by_cases h2:n≤(if m<9223372036854775808 then m else 0)
  ·simp only [within,h,h2,if_true,decide_true,Bool.and_self]
  ·simp only [within,h,h2,if_false,decide_true,decide_false,Bool.and_false]
 ·simp only [go_sem,↓op_app,reduceCtorEq,Nat.reduceAdd,Nat.reduceSub,Nat.reduceMul,Nat.reduceEqDiff,Nat.reduceLT,Nat.reduceDiv,Nat.reduceMod,Nat.reduceLeDiff,↓reduceIte,c38,e1,h]
  simp only [within,h,decide_false,Bool.false_and]
def dataB (s:List UInt8):Bool:=decide (s≠[]) && decide (s.length≤32) && !s.any oddB
theorem data_loop (T:TCode t) {s:List UInt8} {H:Heap} (hs:s.length≤32):∀ (m i:Nat),i+m=s.length→(s.take i).any oddB=false → ∀ (ph:Phi) (kx:Nat→KE) (r:Nat) (e:Env),m<r→pget ⟨.i0, .i0, .i0⟩ e=tv s→pget ⟨.i0, .i0, .i3⟩ e = .int 3 i →
  ∀ x:R,(s.any oddB=false → ∀ e',kx 1 e' H=x)→(s.any oddB=true → ∀ e',pget ⟨.i0, .i0, .i2⟩ e' = .bool false→kx 0 e' H=x)→evL c39l0 fuel ph kx r e H=x:=by
 intro m
 induction m with
 | zero=>
  intro i hi ht ph kx r e hr h0 h3 x hY hN
  obtain ⟨r,rfl⟩:∃ q,r=q+1:=⟨r-1,by omega⟩
  obtain rfl:i=s.length:=by omega
  have e1:nn s.length:=by unfold nn;omega
  have e2:¬ s.length<s.length:=by omega
  have e3:s.length<9223372036854775808:=by omega
  rw [evL_succ]
  simp only [go_sem,↓op_app,reduceCtorEq,Nat.reduceAdd,Nat.reduceSub,Nat.reduceMul,Nat.reduceEqDiff,Nat.reduceLT,Nat.reduceDiv,Nat.reduceMod,Nat.reduceLeDiff,↓reduceIte,c39l0,h0,h3,vStr_tv,e1,e2,e3]
  rw [List.take_length] at ht
  exact hY ht _
 | succ m ih=>
  intro i hi ht ph kx r e hr h0 h3 x hY hN
  obtain ⟨r,rfl⟩:∃ q,r=q+1:=⟨r-1,by omega⟩
  have hlt:i<s.length:=by omega
  have g1:s[i]? = some s[i]:=List.getElem?_eq_getElem hlt
  have hE:=enc_at s i hlt
  have hst:(s.take (i+1)).any oddB=oddB s[i]:=by
   rw [List.take_succ_eq_append_getElem hlt,List.any_append,ht]
   simp
  have hmem:s[i] ∈ s:=List.getElem_mem hlt
  have e1:nn i:=by unfold nn;omega
  have e2:nn s.length:=by unfold nn;omega
  have e3:s.length<9223372036854775808:=by omega
  have e4:i<9223372036854775808:=by omega
  have e5:(i+1) % 18446744073709551616=i+1:=by omega
  generalize s[i]=b at hE hst hmem
  have hb:=b.toNat_lt
  have l1:(evCF (.lt 0 256) b.toNat 33=true)=(b.toNat<33):=by rw [cf_lt];apply propext;omega
  have l2:(evCF (.gt 0 256) b.toNat 126=true)=(126<b.toNat):=by rw [cf_gt];apply propext;omega
  have hodd:oddB b=true→s.any oddB=true:=fun h=>List.any_eq_true.2 ⟨b,hmem,h⟩
  rw [evL_succ]
  by_cases q1:b.toNat<33
  ·simp only [go_sem,↓op_app,reduceCtorEq,Nat.reduceAdd,Nat.reduceSub,Nat.reduceMul,Nat.reduceEqDiff,Nat.reduceLT,Nat.reduceDiv,Nat.reduceMod,Nat.reduceLeDiff,↓reduceIte,c39l0,h0,h3,vStr_tv,e1,e2,e3,e4,e5,hlt,hE,l1,q1]
   exact hN (hodd (by simp [oddB,q1])) _ (by simp only [go_sem,reduceCtorEq,↓reduceIte])
  ·by_cases q2:126<b.toNat
   ·simp only [go_sem,↓op_app,reduceCtorEq,Nat.reduceAdd,Nat.reduceSub,Nat.reduceMul,Nat.reduceEqDiff,Nat.reduceLT,Nat.reduceDiv,Nat.reduceMod,Nat.reduceLeDiff,↓reduceIte,c39l0,h0,h3,vStr_tv,e1,e2,e3,e4,e5,hlt,hE,l1,l2,q1,q2]
    exact hN (hodd (by simp [oddB,q2])) _ (by simp only [go_sem,reduceCtorEq,↓reduceIte])
   ·simp only [go_sem,↓op_app,reduceCtorEq,Nat.reduceAdd,Nat.reduceSub,Nat.reduceMul,Nat.reduceEqDiff,Nat.reduceLT,Nat.reduceDiv,Nat.reduceMod,Nat.reduceLeDiff,↓reduceIte,c39l0,h0,h3,vStr_tv,e1,e2,e3,e4,e5,hlt,hE,l1,l2,q1,q2]
    refine ih (i+1) (by omega) (by rw [hst];simp [oddB,q1,q2]) ph kx r _ (by omega) ?_ ?_ x hY hN <;> simp only [go_sem,reduceCtorEq,↓reduceIte,h0]
theorem data_call (T:TCode t) {s:List UInt8} {H:Heap} (hs:s.length<9223372036854775808) (hfu:100<fuel) (d:Nat) (k:K):callP (evP cp t fuel (d+1)) (.func 78 []) [tv s] H k=k (.bool (dataB s)) H:=by
 have e1:nn s.length:=hs
 rw [call_entry T.k39 rfl rfl]
 by_cases h1:s.length<1
 ·have:s=[]:=List.eq_nil_of_length_eq_zero (by omega)
  have hd:dataB s=false:=by rw [this];rfl
  rw [hd]
  simp only [go_sem,↓op_app,reduceCtorEq,Nat.reduceAdd,Nat.reduceSub,Nat.reduceMul,Nat.reduceEqDiff,Nat.reduceLT,Nat.reduceDiv,Nat.reduceMod,Nat.reduceLeDiff,↓reduceIte,c39,vStr_tv,hs,e1,h1]
 ·have hne:s≠[]:=fun h=>h1 (by rw [h];simp)
  by_cases h2:32<s.length
  ·have hd:dataB s=false:=by simp [dataB];omega
   rw [hd]
   simp only [go_sem,↓op_app,reduceCtorEq,Nat.reduceAdd,Nat.reduceSub,Nat.reduceMul,Nat.reduceEqDiff,Nat.reduceLT,Nat.reduceDiv,Nat.reduceMod,Nat.reduceLeDiff,↓reduceIte,c39,vStr_tv,hs,e1,h1,h2]
  ·have hd:dataB s = !s.any oddB:=by simp [dataB,hne];omega
   rw [hd]
   simp only [go_sem,↓op_app,reduceCtorEq,Nat.reduceAdd,Nat.reduceSub,Nat.reduceMul,Nat.reduceEqDiff,Nat.reduceLT,Nat.reduceDiv,Nat.reduceMod,Nat.reduceLeDiff,↓reduceIte,c39,vStr_tv,hs,e1,h1,h2]
   refine data_loop (s:=s) (H:=H) T (by omega) s.length 0 (by omega) (by simp) _ _ fuel _ (by omega) ?_ ?_ _ (fun h e' => ?_) (fun h e' h2 => ?_)
   ·simp only [go_sem,reduceCtorEq,↓reduceIte]
   ·simp only [go_sem,reduceCtorEq,↓reduceIte]
   ·simp only [go_sem,↓op_app,reduceCtorEq,Nat.reduceAdd,Nat.reduceSub,Nat.reduceMul,Nat.reduceEqDiff,Nat.reduceLT,Nat.reduceDiv,Nat.reduceMod,Nat.reduceLeDiff,↓reduceIte,h]
   ·simp only [go_sem,↓op_app,reduceCtorEq,Nat.reduceAdd,Nat.reduceSub,Nat.reduceMul,Nat.reduceEqDiff,Nat.reduceLT,Nat.reduceDiv,Nat.reduceMod,Nat.reduceLeDiff,↓reduceIte,h,h2]
end
end Go.Ev
end
section
namespace Go.Ev
theorem isB_tup {l:List V} {b:Bool} {t f:R}:isB (.tup l) b t f=f:=Eq.trans rfl rfl
def KRow.rc (r:KRow):List V:=[tv r.w, .int 3 r.a, .int 3 r.b, .bool r.d]
def rowsR:List V:=kindsT.flatMap KRow.rc
theorem rowsR_len:rowsR.length=48:=rfl
theorem rowsR_at:∀ i r,kindsT[i]? = some r→(rowsR.drop (i * 4)).take 4=r.rc
 | 0,r,h=>by cases h;rfl
 | 1,r,h=>by cases h;rfl
 | 2,r,h=>by cases h;rfl
 | 3,r,h=>by cases h;rfl
 | 4,r,h=>by cases h;rfl
 | 5,r,h=>by cases h;rfl
 | 6,r,h=>by cases h;rfl
 | 7,r,h=>by cases h;rfl
 | 8,r,h=>by cases h;rfl
 | 9,r,h=>by cases h;rfl
 | 10,r,h=>by cases h;rfl
 | 11,r,h=>by cases h;rfl
 | n+12,r,h=>by simp [kindsT] at h
section
variable {t:Nat→Option FnE} {cp:RC→CodeE} {fuel:Nat} {H:Heap}
set_option maxRecDepth 20000 in
theorem rows_call (T:TCode t) (hw:H.wf) (d:Nat) (k:K):callP (evP cp t fuel (d+1)) (.func 74 []) [] H k=k (.slice H.n 0 12 13 0) (H.new (.cells rowsR)):=by
 rw [call_entry T.k37 rfl rfl]
 simp only [go_sem,↓op_app,reduceCtorEq,Nat.reduceAdd,Nat.reduceSub,Nat.reduceMul,Nat.reduceEqDiff,Nat.reduceLT,Nat.reduceDiv,Nat.reduceMod,Nat.reduceLeDiff,↓reduceIte,c37,hw]
 rfl
theorem may2_call (T:TCode t) (hw:H.wf) {s:Stp} (hk:s.k<18446744073709551616) (ha:s.a<18446744073709551616) (hb:s.b<18446744073709551616) (hd:s.d.length<9223372036854775808) (hfu:100<fuel) :
  ∃ G,Fresh H G ∧ ∀ (d:Nat) (k:K),callP (evP cp t fuel (d+2)) (.func 44 []) [.agg s.cells] H k=k (.bool (mayS s)) G:=by
 generalize hG1:H.new (.cells s.cells)=G1
 have f1:Fresh H G1:=by rw [← hG1];exact Fresh.new hw
 have g1n:G1.n=H.n+1:=by rw [← hG1,Heap.n_new]
 have g1b:G1.get H.n = .cells s.cells:=by rw [← hG1,Heap.get_new hw,if_pos rfl]
 have hw1:=f1.wf
 have a3:∀ {id:Nat} {x:R},allOne id s.cells x=x:=fun {id x}=>rfl
 have zc0:∀ {id:Nat} {f:V→R},nth id s.cells 0 f=f (.int 3 s.k):=fun {id f}=>rfl
 have zc1:∀ {id:Nat} {f:V→R},nth id s.cells 1 f=f (.int 3 s.a):=fun {id f}=>rfl
 have zc2:∀ {id:Nat} {f:V→R},nth id s.cells 2 f=f (.int 3 s.b):=fun {id f}=>rfl
 have zc3:∀ {id:Nat} {f:V→R},nth id s.cells 3 f=f (tv s.d):=fun {id f}=>rfl
 have l1:(evCF (.lt 9223372036854775808 18446744073709551616) s.k 0=true)=(9223372036854775808≤s.k):=by rw [cf_lt];apply propext;omega
 have l2:(evCF (.gt 9223372036854775808 18446744073709551616) s.k 11=true)=(11<s.k∧s.k<9223372036854775808):=by rw [cf_gt];apply propext;omega
 by_cases hk1:9223372036854775808≤s.k
 ·have hm:mayS s=false:=by
   unfold mayS
   rw [List.getElem?_eq_none (by show 12≤s.k;omega)]
  refine ⟨G1,f1,fun d k => ?_⟩
  rw [call_entry T.k22 rfl rfl,hm]
  simp only [go_sem,↓op_app,reduceCtorEq,Nat.reduceAdd,Nat.reduceSub,Nat.reduceMul,Nat.reduceEqDiff,Nat.reduceLT,Nat.reduceDiv,Nat.reduceMod,Nat.reduceLeDiff,↓reduceIte,c22,c22r1,hw,a3,hG1,g1b,zc0,l1,hk1]
 by_cases hk2:11<s.k
 ·have hm:mayS s=false:=by
   unfold mayS
   rw [List.getElem?_eq_none (by show 12≤s.k;omega)]
  have hk3:s.k<9223372036854775808:=by omega
  refine ⟨G1,f1,fun d k => ?_⟩
  rw [call_entry T.k22 rfl rfl,hm]
  simp only [go_sem,↓op_app,reduceCtorEq,Nat.reduceAdd,Nat.reduceSub,Nat.reduceMul,Nat.reduceEqDiff,Nat.reduceLT,Nat.reduceDiv,Nat.reduceMod,Nat.reduceLeDiff,↓reduceIte,c22,c22r1,hw,a3,hG1,g1b,zc0,l1,l2,hk1,hk2,hk3,and_self]
 obtain ⟨r,hr⟩:∃ r,kindsT[s.k]? = some r:=⟨_,List.getElem?_eq_getElem (show s.k<12 by omega)⟩
 have hm:mayS s=mayB r s:=by unfold mayS;rw [hr]
 have hrm:=List.mem_of_getElem? hr
 obtain ⟨k1,k2⟩:=kinds_ok r hrm
 have ra:r.a<18446744073709551616:=by omega
 have rb:r.b<18446744073709551616:=by
  rcases k2 with h | h
  ·rw [h];decide
  ·omega
 generalize hG2:G1.new (.cells rowsR)=G2
 have f2:Fresh H G2:=by rw [← hG2];exact f1.trans (Fresh.new hw1)
 have g2n:G2.n=H.n+1+1:=by rw [← hG2,Heap.n_new,g1n]
 have g2s:G2.get H.n = .cells s.cells:=by rw [← hG2,Heap.get_new hw1,if_neg (by omega)];exact g1b
 have g2r:G2.get (H.n+1) = .cells rowsR:=by rw [← hG2,Heap.get_new hw1,if_pos g1n.symm]
 have hw2:=f2.wf
 generalize hG3:G2.new (.cells [.str 0 0, .int 3 0, .int 3 0, .bool false])=G3
 have f3:Fresh H G3:=by rw [← hG3];exact f2.trans (Fresh.new hw2)
 have g3n:G3.n=H.n+1+1+1:=by rw [← hG3,Heap.n_new,g2n]
 have g3x:G3.get (H.n+1+1) = .cells [.str 0 0, .int 3 0, .int 3 0, .bool false]:=by rw [← hG3,Heap.get_new hw2,if_pos g2n.symm]
 have hw3:=f3.wf
 have g3s:G3.get H.n = .cells s.cells:=by rw [← hG3,Heap.get_new hw2,if_neg (by omega)];exact g2s
 have l3:H.n+1+1<H.n+1+1+1:=by omega
 generalize hG4:G3.put (H.n+1+1) (.cells r.rc)=G4
 have f4:Fresh H G4:=by rw [← hG4];exact f3.put (by omega) (by omega)
 have g4x:G4.get (H.n+1+1) = .cells r.rc:=by rw [← hG4,Heap.get_put hw3 (by omega),if_pos rfl]
 have g4s:G4.get H.n = .cells s.cells:=by rw [← hG4,Heap.get_put hw3 (by omega),if_neg (by omega)];exact g3s
 have n1:nn s.k:=by unfold nn;omega
 have n2:s.k<12:=by omega
 have n3:s.k<9223372036854775808:=by omega
 have e1:∀ {id:Nat} {f:List V→R},dropN id rowsR (s.k * 4) f=f (rowsR.drop (s.k * 4)):=fun {id f}=>dropN_eq (by rw [rowsR_len];omega)
 have e2:∀ {id:Nat} {f:List V→R},takeN id (rowsR.drop (s.k * 4)) 4 f=f r.rc:=fun {id f}=>by rw [takeN_eq (by rw [List.length_drop,rowsR_len];omega),rowsR_at s.k r hr]
 have e3:r.rc.length=4:=rfl
 have e4:∀ {id:Nat} {x:R},allOne id r.rc x=x:=fun {id x}=>rfl
 have e5:∀ {id:Nat} {f:List V→R},setAt id r.rc [.str 0 0, .int 3 0, .int 3 0, .bool false] 0 f=f r.rc:=fun {id f}=>rfl
 have zr:=fun {H:Heap} {d:Nat} {k:K} (h:H.wf)=>rows_call (cp:=cp) (fuel:=fuel) (H:=H) T h d k
 refine ⟨G4,f4,fun d k => ?_⟩
 rw [call_entry T.k22 rfl rfl,hm]
 simp only [go_sem,↓op_app,reduceCtorEq,Nat.reduceAdd,Nat.reduceSub,Nat.reduceMul,Nat.reduceEqDiff,Nat.reduceLT,Nat.reduceDiv,Nat.reduceMod,Nat.reduceLeDiff,↓reduceIte,c22,c22r1,hw,a3,hG1,g1b,zc0,l1,l2,hk1,hk2,false_and]
 simp only [go_sem,↓op_app,reduceCtorEq,Nat.reduceAdd,Nat.reduceSub,Nat.reduceMul,Nat.reduceEqDiff,Nat.reduceLT,Nat.reduceDiv,Nat.reduceMod,Nat.reduceLeDiff,↓reduceIte,c22r2,hw1,zr,hG2,g1n,g2s,g2r,zc0,n1,n2,n3,e1,e2,e3,e4,e5,hw2,g2n,hG3,g3x,hw3,g3n,l3,hG4]
 have b1:∀ {id:Nat} {f:V→R},nth id r.rc 1 f=f (.int 3 r.a):=fun {id f}=>rfl
 have b2:∀ {id:Nat} {f:V→R},nth id r.rc 2 f=f (.int 3 r.b):=fun {id f}=>rfl
 have b3:∀ {id:Nat} {f:V→R},nth id r.rc 3 f=f (.bool r.d):=fun {id f}=>rfl
 have z1:=fun {k:K}=>within2_call (cp:=cp) (fuel:=fuel) (H:=G4) T ha ra d k
 have z2:=fun {k:K}=>within2_call (cp:=cp) (fuel:=fuel) (H:=G4) T hb rb d k
 have z3:=fun {k:K}=>data_call (cp:=cp) (fuel:=fuel) (H:=G4) T hd hfu d k
 have hmb:mayB r s=((if r.d then dataB s.d else decide (s.d=[])) && within s.a r.a && within s.b r.b):=rfl
 rw [hmb]
 cases hA:within s.a r.a with
 | false=>
  rw [hA] at z1
  simp only [Bool.and_false,Bool.false_and]
  simp only [go_sem,↓op_app,reduceCtorEq,Nat.reduceAdd,Nat.reduceSub,Nat.reduceMul,Nat.reduceEqDiff,Nat.reduceLT,Nat.reduceDiv,Nat.reduceMod,Nat.reduceLeDiff,↓reduceIte,c22r3,c22r4,g4x,g4s,↓zc1,↓b1,↓z1,↓isB_tup]
 | true=>
  rw [hA] at z1
  cases hB:within s.b r.b with
  | false=>
   rw [hB] at z2
   simp only [Bool.and_false]
   simp only [go_sem,↓op_app,reduceCtorEq,Nat.reduceAdd,Nat.reduceSub,Nat.reduceMul,Nat.reduceEqDiff,Nat.reduceLT,Nat.reduceDiv,Nat.reduceMod,Nat.reduceLeDiff,↓reduceIte,c22r3,c22r4,g4x,g4s,↓zc1,↓zc2,↓b1,↓b2,↓z1,↓z2,↓isB_tup]
  | true=>
   rw [hB] at z2
   simp only [Bool.and_true]
   cases hD:r.d with
   | true=>
    rw [hD] at b3
    rw [if_pos rfl]
    cases hz:dataB s.d <;> rw [hz] at z3 <;> simp only [go_sem,↓op_app,reduceCtorEq,Nat.reduceAdd,Nat.reduceSub,Nat.reduceMul,Nat.reduceEqDiff,Nat.reduceLT,Nat.reduceDiv,Nat.reduceMod,Nat.reduceLeDiff,↓reduceIte,c22r3,c22r4,g4x,g4s,↓zc1,↓zc2,↓zc3,↓b1,↓b2,↓b3,↓z1,↓z2,↓z3,↓isB_tup,isOne_tv]
   | false=>
    rw [hD] at b3
    rw [if_neg (by decide)]
    by_cases h0:s.d=[]
    ·have h0':=eq_true h0
     simp only [go_sem,↓op_app,reduceCtorEq,Nat.reduceAdd,Nat.reduceSub,Nat.reduceMul,Nat.reduceEqDiff,Nat.reduceLT,Nat.reduceDiv,Nat.reduceMod,Nat.reduceLeDiff,↓reduceIte,c22r3,c22r4,g4x,g4s,↓zc1,↓zc2,↓zc3,↓b1,↓b2,↓b3,↓z1,↓z2,↓isB_tup,isOne_tv,vStr_tv,len_enc_nil,h0',decide_true]
    ·have h0':=eq_false h0
     simp only [go_sem,↓op_app,reduceCtorEq,Nat.reduceAdd,Nat.reduceSub,Nat.reduceMul,Nat.reduceEqDiff,Nat.reduceLT,Nat.reduceDiv,Nat.reduceMod,Nat.reduceLeDiff,↓reduceIte,c22r3,c22r4,g4x,g4s,↓zc1,↓zc2,↓zc3,↓b1,↓b2,↓b3,↓z1,↓z2,↓isB_tup,isOne_tv,vStr_tv,len_enc_nil,h0',decide_false]
end
end Go.Ev
end
section
namespace Go.Ev
theorem tv_cat (a b:List UInt8):∃ c,c=a ++ b∧V.str (a.length+b.length) (enc a+enc b * 256 ^ a.length)=tv c:=⟨_,rfl,tv_append a b⟩
theorem tv_blank (a:List UInt8):∃ c,c=a ++ [32]∧V.str (a.length+1) (enc a+32 * 256 ^ a.length)=tv c:=⟨_,rfl,tv_append a [32]⟩
section
variable {t:Nat→Option FnE} {cp:RC→CodeE} {fuel:Nat} {H:Heap}
theorem line_r4 {G:Heap} {s:Stp} {r:KRow} {Bs Br:Nat} (gs:G.get Bs = .cells s.cells) (gr:G.get Br = .cells r.rc) (D:MayD r s) {x3:List UInt8} (hx:x3.length≤20) (ph:Phi) (kn:KE) (kx:Nat→KE) (e:Env) (x:R)
  (h1:pget ⟨.i0, .i0, .i1⟩ e = .ptr Bs 0) (h3:pget ⟨.i0, .i0, .i3⟩ e = .ptr Br 0) (h4:pget ⟨.i0, .i0, .i4⟩ e=tv x3) (hk:∀ e',pget ⟨.i0, .i0, .i2⟩ e'=tv (x3 ++ if r.d=true then 32 :: s.d else [])→kx 0 e' G=x):evC c23r4 fuel ph e G kn kx=x:=by
 have zc3:∀ {id:Nat} {f:V→R},nth id s.cells 3 f=f (tv s.d):=fun {id f}=>rfl
 have b3:∀ {id:Nat} {f:V→R},nth id r.rc 3 f=f (.bool r.d):=fun {id f}=>rfl
 cases hd:r.d with
 | true=>
  rw [hd] at b3 hk
  have hl:=(D.d hd).2.2
  obtain ⟨x4,hx4,q4⟩:=tv_blank x3
  obtain ⟨x5,hx5,q5⟩:=tv_cat x4 s.d
  have l4:x4.length≤21:=by rw [hx4];simp;omega
  have s1:x3.length+1<9223372036854775808:=by omega
  have s2:x4.length+s.d.length<9223372036854775808:=by omega
  simp only [go_sem,↓op_app,reduceCtorEq,Nat.reduceAdd,Nat.reduceSub,Nat.reduceMul,Nat.reduceEqDiff,Nat.reduceLT,Nat.reduceDiv,Nat.reduceMod,Nat.reduceLeDiff,↓reduceIte,c23r4,c23r5,c23r6,h1,h3,h4,gs,gr,↓b3,↓zc3,isOne_tv,vStr_tv,q4,q5,s1,s2]
  refine hk _ ?_
  simp only [go_sem,↓op_app,reduceCtorEq,Nat.reduceAdd,Nat.reduceSub,Nat.reduceMul,Nat.reduceEqDiff,Nat.reduceLT,Nat.reduceDiv,Nat.reduceMod,Nat.reduceLeDiff,↓reduceIte]
  rw [hx5,hx4,List.append_assoc]
  rfl
 | false=>
  rw [hd] at b3 hk
  simp only [go_sem,↓op_app,reduceCtorEq,Nat.reduceAdd,Nat.reduceSub,Nat.reduceMul,Nat.reduceEqDiff,Nat.reduceLT,Nat.reduceDiv,Nat.reduceMod,Nat.reduceLeDiff,↓reduceIte,c23r4,c23r5,c23r6,h1,h3,h4,gs,gr,↓b3,isOne_tv]
  refine hk _ ?_
  simp only [go_sem,↓op_app,reduceCtorEq,Nat.reduceAdd,Nat.reduceSub,Nat.reduceMul,Nat.reduceEqDiff,Nat.reduceLT,Nat.reduceDiv,Nat.reduceMod,Nat.reduceLeDiff,↓reduceIte,List.append_nil]
theorem line_tail (T:TCode t) {G:Heap} (hw:G.wf) {s:Stp} {r:KRow} {Bs Br:Nat} (gs:G.get Bs = .cells s.cells) (gr:G.get Br = .cells r.rc) (hBs:Bs<G.n) (hBr:Br<G.n) (hrm:r ∈ kindsT) (D:MayD r s) {x2:List UInt8} (hx:x2.length≤12) :
  ∃ G',Fresh G G' ∧ ∀ (d:Nat) (kn:KE) (kx:Nat→KE) (e:Env) (x:R),pget ⟨.i0, .i0, .i1⟩ e = .ptr Bs 0→pget ⟨.i0, .i0, .i3⟩ e = .ptr Br 0→pget ⟨.i0, .i0, .i4⟩ e=tv x2→(∀ e',pget ⟨.i0, .i0, .i2⟩ e'=tv (x2 ++ (if r.b=neg1 then [] else 32 :: decD s.b) ++ if r.d=true then 32 :: s.d else [])→kx 0 e' G'=x)→evC c23r3 fuel (evP cp t fuel (d+5)) e G kn kx=x:=by
 obtain ⟨k1,k2⟩:=kinds_ok r hrm
 have zc2:∀ {id:Nat} {f:V→R},nth id s.cells 2 f=f (.int 3 s.b):=fun {id f}=>rfl
 have b2:∀ {id:Nat} {f:V→R},nth id r.rc 2 f=f (.int 3 r.b):=fun {id f}=>rfl
 by_cases hb:r.b=neg1
 ·have l1:(evCF (.ge 9223372036854775808 18446744073709551616) r.b 0=true)=False:=by rw [hb];decide
  refine ⟨G,Fresh.refl hw,fun d kn kx e x h1 h3 h4 hk => ?_⟩
  rw [if_pos hb,List.append_nil] at hk
  simp only [go_sem,↓op_app,reduceCtorEq,Nat.reduceAdd,Nat.reduceSub,Nat.reduceMul,Nat.reduceEqDiff,Nat.reduceLT,Nat.reduceDiv,Nat.reduceMod,Nat.reduceLeDiff,↓reduceIte,c23r3,h1,h3,h4,gs,gr,↓b2,l1]
  refine line_r4 gs gr D (by omega) _ _ _ _ x ?_ ?_ ?_ hk <;> simp only [go_sem,reduceCtorEq,↓reduceIte,h1,h3,h4]
 ·have hb2:r.b<10000:=k2.resolve_left hb
  have hbs:=D.b hb
  have l1:(evCF (.ge 9223372036854775808 18446744073709551616) r.b 0=true)=True:=by
   rw [ge0 (by omega)]
   exact eq_true (by omega)
  obtain ⟨G1,f1,z1⟩:=digits_call (cp:=cp) (fuel:=fuel) T 3 s.b (by omega) hbs G hw
  obtain ⟨x3,hx3,q3⟩:=tv_blank x2
  obtain ⟨x4,hx4,q4⟩:=tv_cat x3 (decD s.b)
  have lb:=decD_len s.b
  have l3:x3.length≤13:=by rw [hx3];simp;omega
  have l4:x4.length≤17:=by rw [hx4];simp;omega
  have s1:x2.length+1<9223372036854775808:=by omega
  have s2:x3.length+(decD s.b).length<9223372036854775808:=by omega
  refine ⟨G1,f1,fun d kn kx e x h1 h3 h4 hk => ?_⟩
  rw [if_neg hb] at hk
  have z1':∀ {k:K},callP (evP cp t fuel (d+5)) (.func 80 []) [.int 3 s.b] G k=k (tv (decD s.b)) G1:=fun {k}=>z1 (d+1) k
  simp only [go_sem,↓op_app,reduceCtorEq,Nat.reduceAdd,Nat.reduceSub,Nat.reduceMul,Nat.reduceEqDiff,Nat.reduceLT,Nat.reduceDiv,Nat.reduceMod,Nat.reduceLeDiff,↓reduceIte,c23r3,h1,h3,h4,gs,gr,↓b2,↓zc2,l1,vStr_tv,q3,q4,s1,s2,↓z1']
  refine line_r4 ((f1.same _ hBs).trans gs) ((f1.same _ hBr).trans gr) D (x3:=x4) (by omega) _ _ _ _ x ?_ ?_ ?_ ?_
  ·simp only [go_sem,reduceCtorEq,↓reduceIte,h1]
  ·simp only [go_sem,reduceCtorEq,↓reduceIte,h3]
  ·simp only [go_sem,reduceCtorEq,↓reduceIte]
  ·intro e' he
   refine hk e' ?_
   rw [he,hx4,hx3]
   simp only [List.append_assoc,List.cons_append,List.nil_append]
theorem line_call (T:TCode t) (hw:H.wf) {s:Stp} (hm:mayS s=true) :
  ∃ G,Fresh H G ∧ ∀ (d:Nat) (k:K),callP (evP cp t fuel (d+6)) (.func 46 []) [.agg s.cells] H k=k (tv (bodyOf s)) G:=by
 obtain ⟨r,hr,hrm,hmb,D⟩:=mayS_row hm
 have hk12:s.k<12:=by
  rcases Nat.lt_or_ge s.k 12 with h | h
  ·exact h
  ·rw [List.getElem?_eq_none (by show 12≤s.k;exact h)] at hr;cases hr
 obtain ⟨k1,k2⟩:=kinds_ok r hrm
 have rb:r.b<18446744073709551616:=by
  rcases k2 with h | h
  ·rw [h];decide
  ·omega
 have lw:=kinds_len r hrm
 generalize hG1:H.new (.cells s.cells)=G1
 have f1:Fresh H G1:=by rw [← hG1];exact Fresh.new hw
 have g1n:G1.n=H.n+1:=by rw [← hG1,Heap.n_new]
 have g1b:G1.get H.n = .cells s.cells:=by rw [← hG1,Heap.get_new hw,if_pos rfl]
 have hw1:=f1.wf
 generalize hG2:G1.new (.cells rowsR)=G2
 have f2:Fresh H G2:=by rw [← hG2];exact f1.trans (Fresh.new hw1)
 have g2n:G2.n=H.n+1+1:=by rw [← hG2,Heap.n_new,g1n]
 have g2s:G2.get H.n = .cells s.cells:=by rw [← hG2,Heap.get_new hw1,if_neg (by omega)];exact g1b
 have g2r:G2.get (H.n+1) = .cells rowsR:=by rw [← hG2,Heap.get_new hw1,if_pos g1n.symm]
 have hw2:=f2.wf
 generalize hG3:G2.new (.cells [.str 0 0, .int 3 0, .int 3 0, .bool false])=G3
 have f3:Fresh H G3:=by rw [← hG3];exact f2.trans (Fresh.new hw2)
 have g3n:G3.n=H.n+1+1+1:=by rw [← hG3,Heap.n_new,g2n]
 have g3x:G3.get (H.n+1+1) = .cells [.str 0 0, .int 3 0, .int 3 0, .bool false]:=by rw [← hG3,Heap.get_new hw2,if_pos g2n.symm]
 have hw3:=f3.wf
 have g3s:G3.get H.n = .cells s.cells:=by rw [← hG3,Heap.get_new hw2,if_neg (by omega)];exact g2s
 have l3:H.n+1+1<H.n+1+1+1:=by omega
 generalize hG4:G3.put (H.n+1+1) (.cells r.rc)=G4
 have f4:Fresh H G4:=by rw [← hG4];exact f3.put (by omega) (by omega)
 have g4n:G4.n=H.n+1+1+1:=by rw [← hG4,Heap.n_put,g3n]
 have g4x:G4.get (H.n+1+1) = .cells r.rc:=by rw [← hG4,Heap.get_put hw3 (by omega),if_pos rfl]
 have g4s:G4.get H.n = .cells s.cells:=by rw [← hG4,Heap.get_put hw3 (by omega),if_neg (by omega)];exact g3s
 have hw4:=f4.wf
 obtain ⟨Gm,fm,zm⟩:=digits_call (cp:=cp) (fuel:=fuel) T 3 s.a (by have:=D.a;omega) D.a G4.mark (by rw [Heap.wf_mark];exact hw4)
 obtain ⟨f5,le5⟩:=fm.unmark
 generalize hG5:Gm.unmark G4.wlo=G5 at f5
 have g5x:G5.get (H.n+1+1) = .cells r.rc:=(f5.same _ (by omega)).trans g4x
 have g5s:G5.get H.n = .cells s.cells:=(f5.same _ (by omega)).trans g4s
 have hw5:=f5.wf
 have a3:∀ {id:Nat} {x:R},allOne id s.cells x=x:=fun {id x}=>rfl
 have zc0:∀ {id:Nat} {f:V→R},nth id s.cells 0 f=f (.int 3 s.k):=fun {id f}=>rfl
 have zc1:∀ {id:Nat} {f:V→R},nth id s.cells 1 f=f (.int 3 s.a):=fun {id f}=>rfl
 have zc2:∀ {id:Nat} {f:V→R},nth id s.cells 2 f=f (.int 3 s.b):=fun {id f}=>rfl
 have zc3:∀ {id:Nat} {f:V→R},nth id s.cells 3 f=f (tv s.d):=fun {id f}=>rfl
 have b0:∀ {id:Nat} {f:V→R},nth id r.rc 0 f=f (tv r.w):=fun {id f}=>rfl
 have b2:∀ {id:Nat} {f:V→R},nth id r.rc 2 f=f (.int 3 r.b):=fun {id f}=>rfl
 have b3:∀ {id:Nat} {f:V→R},nth id r.rc 3 f=f (.bool r.d):=fun {id f}=>rfl
 have n1:nn s.k:=by unfold nn;omega
 have n3:s.k<9223372036854775808:=by omega
 have e1:∀ {id:Nat} {f:List V→R},dropN id rowsR (s.k * 4) f=f (rowsR.drop (s.k * 4)):=fun {id f}=>dropN_eq (by rw [rowsR_len];omega)
 have e2:∀ {id:Nat} {f:List V→R},takeN id (rowsR.drop (s.k * 4)) 4 f=f r.rc:=fun {id f}=>by rw [takeN_eq (by rw [List.length_drop,rowsR_len];omega),rowsR_at s.k r hr]
 have e3:r.rc.length=4:=rfl
 have e4:∀ {id:Nat} {x:R},allOne id r.rc x=x:=fun {id x}=>rfl
 have e5:∀ {id:Nat} {f:List V→R},setAt id r.rc [.str 0 0, .int 3 0, .int 3 0, .bool false] 0 f=f r.rc:=fun {id f}=>rfl
 have zr:=fun {H:Heap} {d:Nat} {k:K} (h:H.wf)=>rows_call (cp:=cp) (fuel:=fuel) (H:=H) T h d k
 obtain ⟨x1,hx1,q1⟩:=tv_blank r.w
 obtain ⟨x2,hx2,q2⟩:=tv_cat x1 (decD s.a)
 have la:=decD_len s.a
 have lx1:x1.length≤8:=by rw [hx1];simp;omega
 have lx2:x2.length≤12:=by rw [hx2];simp;omega
 have s1:r.w.length+1<9223372036854775808:=by omega
 have s2:x1.length+(decD s.a).length<9223372036854775808:=by omega
 obtain ⟨G6,f6,z6⟩:=line_tail (cp:=cp) (fuel:=fuel) T hw5 g5s g5x (by have:=f5.n;omega) (by have:=f5.n;omega) hrm D (x2:=x2) (by omega)
 refine ⟨G6,(f4.trans f5).trans f6,fun d k => ?_⟩
 have zm':∀ {k:K},callP (evP cp t fuel (d+5)) (.func 80 []) [.int 3 s.a] G4.mark k=k (tv (decD s.a)) Gm:=fun {k}=>zm (d+1) k
 rw [call_entry T.k23 rfl rfl]
 simp only [go_sem,↓op_app,reduceCtorEq,Nat.reduceAdd,Nat.reduceSub,Nat.reduceMul,Nat.reduceEqDiff,Nat.reduceLT,Nat.reduceDiv,Nat.reduceMod,Nat.reduceLeDiff,↓reduceIte,c23,hw,a3,hG1]
 simp only [go_sem,↓op_app,reduceCtorEq,Nat.reduceAdd,Nat.reduceSub,Nat.reduceMul,Nat.reduceEqDiff,Nat.reduceLT,Nat.reduceDiv,Nat.reduceMod,Nat.reduceLeDiff,↓reduceIte,c23r1,hw1,zr,hG2,g1n,g1b,g2s,g2r,↓zc0,n1,hk12,n3,↓e1,↓e2,e3,e4,↓e5,hw2,g2n,hG3,g3x,hw3,g3n,l3,hG4]
 simp only [go_sem,↓op_app,reduceCtorEq,Nat.reduceAdd,Nat.reduceSub,Nat.reduceMul,Nat.reduceEqDiff,Nat.reduceLT,Nat.reduceDiv,Nat.reduceMod,Nat.reduceLeDiff,↓reduceIte,c23r2,g4x,g4s,↓b0,↓zc1,isOne_tv,vStr_tv,q1,q2,s1,s2,↓zm',le5,hG5]
 refine z6 d _ _ _ _ ?_ ?_ ?_ fun e' he => ?_
 ·simp only [go_sem,reduceCtorEq,↓reduceIte]
 ·simp only [go_sem,reduceCtorEq,↓reduceIte]
 ·simp only [go_sem,reduceCtorEq,↓reduceIte]
 ·simp only [go_sem,↓op_app,reduceCtorEq,Nat.reduceAdd,Nat.reduceSub,Nat.reduceMul,Nat.reduceEqDiff,Nat.reduceLT,Nat.reduceDiv,Nat.reduceMod,Nat.reduceLeDiff,↓reduceIte,he]
  have hx:bodyOf s=x2 ++ (if r.b=neg1 then [] else 32 :: decD s.b) ++ (if r.d=true then 32 :: s.d else []):=by
   simp only [bodyOf,hr]
   rw [hx2,hx1]
   simp only [List.append_assoc,List.cons_append,List.nil_append]
  rw [hx]
end
end Go.Ev
end
section
namespace Go.Ev
section
variable {t:Nat→Option FnE} {cp:RC→CodeE} {fuel:Nat} {H:Heap}
theorem rprint_loop (T:TCode t) (hfu:1000001<fuel) {v:V} {l:List Stp} (hl:StAt H v l) (hn:l.length≤4096) (hok:∀ s ∈ l,StOK s) :
  ∀ (m i:Nat) (G:Heap),i+m=l.length→Fresh H G→(∀ s ∈ l.take i,mayS s=true) →
  ∃ G',Fresh H G'∧(((∀ s ∈ l,mayS s=true) ∧ ∀ (d:Nat) (kx:Nat→KE) (r:Nat) (e:Env),m<r→pget ⟨.i0, .i0, .i0⟩ e=v→pget ⟨.i0, .i0, .i4⟩ e=tv ((l.take i).flatMap lineOf)→pget ⟨.i0, .i0, .i5⟩ e = .int 3 i →
    ∀ x:R,(∀ e',pget ⟨.i0, .i0, .i4⟩ e'=tv (l.flatMap lineOf)→kx 1 e' G'=x)→evL c9l0 fuel (evP cp t fuel (d+6)) kx r e G=x) ∨
   ((∃ s ∈ l,mayS s≠true) ∧ ∀ (d:Nat) (kx:Nat→KE) (r:Nat) (e:Env),m<r→pget ⟨.i0, .i0, .i0⟩ e=v→pget ⟨.i0, .i0, .i4⟩ e=tv ((l.take i).flatMap lineOf)→pget ⟨.i0, .i0, .i5⟩ e = .int 3 i →
    ∀ x:R,(∀ e',pget ⟨.i0, .i0, .i2⟩ e' = .str 0 0→pget ⟨.i0, .i0, .i3⟩ e' = .int 3 2→kx 0 e' G'=x)→evL c9l0 fuel (evP cp t fuel (d+6)) kx r e G=x)):=by
 have hs:=fun {id:Nat} {f:Nat→R}=>hl.sn (id:=id) (f:=f)
 have e8:l.length<9223372036854775808:=by omega
 have e2:nn l.length:=e8
 intro m
 induction m with
 | zero=>
  intro i G hi f hm
  obtain rfl:i=l.length:=by omega
  refine ⟨G,f,Or.inl ⟨by rw [List.take_length] at hm;exact hm,fun d kx r e hr h0 h4 h5 x hx => ?_⟩⟩
  obtain ⟨r,rfl⟩:∃ q,r=q+1:=⟨r-1,by omega⟩
  have e1:¬ l.length<l.length:=by omega
  rw [evL_succ]
  simp only [go_sem,↓op_app,reduceCtorEq,Nat.reduceAdd,Nat.reduceSub,Nat.reduceMul,Nat.reduceEqDiff,Nat.reduceLT,Nat.reduceDiv,Nat.reduceMod,Nat.reduceLeDiff,↓reduceIte,c9l0,h0,h5,↓hs,e1,e2,e8]
  rw [List.take_length] at h4
  exact hx _ (by simp only [go_sem,reduceCtorEq,↓reduceIte,h4])
 | succ m ih=>
  intro i G hi f hm
  have hw:=f.wf
  have hlt:i<l.length:=by omega
  obtain ⟨s,g1,hmem,htk⟩:∃ s,l[i]? = some s∧s ∈ l∧l.take (i+1)=l.take i ++ [s]:=⟨l[i],List.getElem?_eq_getElem hlt,List.getElem_mem hlt,List.take_succ_eq_append_getElem hlt⟩
  obtain ⟨b,o,c,z,hv,zr1⟩:=(hl.fresh f).four g1
  have e1:nn i:=by unfold nn;omega
  have e3:i<9223372036854775808:=by omega
  have e9:(i+1) % 18446744073709551616=i+1:=by omega
  have O:=hok s hmem
  obtain ⟨G1,f1,z1⟩:=may2_call (cp:=cp) (fuel:=fuel) T hw O.k O.a O.b O.d (by omega)
  have hw1:=f1.wf
  obtain ⟨b',o',c',z',hv',zr2⟩:=(hl.fresh (f.trans f1)).four g1
  rw [hv] at hv'
  cases hv'
  have t1:List.take 4 s.cells=s.cells:=rfl
  by_cases hm1:mayS s=true
  ·rw [hm1] at z1
   obtain ⟨G2,f2,z2⟩:=line_call (cp:=cp) (fuel:=fuel) T hw1 hm1
   have hmn:∀ s' ∈ l.take (i+1),mayS s'=true:=fun s' h'=>by
    rw [htk] at h'
    rcases List.mem_append.1 h' with h' | h'
    ·exact hm s' h'
    ·rw [List.mem_singleton] at h';subst h';exact hm1
   obtain ⟨G',f',z3⟩:=ih (i+1) G2 (by omega) ((f.trans f1).trans f2) hmn
   have hlen:=lines_lenP _ hm
   rw [List.length_take,Nat.min_eq_left (by omega)] at hlen
   have hbl:(bodyOf s).length≤100:=by
    have h1:=lineOf_len hm1
    rw [lineOf_body hm1] at h1
    simp at h1;omega
   have hout:(l.take (i+1)).flatMap lineOf=(l.take i).flatMap lineOf ++ bodyOf s ++ [10]:=by
    rw [htk,List.flatMap_append,List.flatMap_cons,List.flatMap_nil,List.append_nil,lineOf_body hm1,List.append_assoc]
   rw [hout] at z3
   generalize (l.take i).flatMap lineOf=x0 at hlen z3 ⊢
   obtain ⟨x1,hx1,q1⟩:=tv_cat x0 (bodyOf s)
   obtain ⟨x2,hx2,q2⟩:∃ c,c=x1 ++ [10]∧V.str (x1.length+1) (enc x1+10 * 256 ^ x1.length)=tv c:=⟨_,rfl,tv_append x1 [10]⟩
   have l1:x1.length≤500000:=by rw [hx1,List.length_append];omega
   have s1:x0.length+(bodyOf s).length<9223372036854775808:=by omega
   have s2:x1.length+1<9223372036854775808:=by omega
   rw [← hx1,← hx2] at z3
   have run:∀ (d:Nat) (kx:Nat→KE) (r:Nat) (e:Env),pget ⟨.i0, .i0, .i0⟩ e=v→pget ⟨.i0, .i0, .i4⟩ e=tv x0→pget ⟨.i0, .i0, .i5⟩ e = .int 3 i → ∀ x:R,
     (∀ e',pget ⟨.i0, .i0, .i0⟩ e'=v→pget ⟨.i0, .i0, .i4⟩ e'=tv x2→pget ⟨.i0, .i0, .i5⟩ e' = .int 3 (i+1)→evL c9l0 fuel (evP cp t fuel (d+6)) kx r e' G2=x)→evL c9l0 fuel (evP cp t fuel (d+6)) kx (r+1) e G=x:=fun d kx r e h0 h4 h5 x hx=>by
    have z1':∀ {k:K},callP (evP cp t fuel (d+6)) (.func 44 []) [.agg s.cells] G k=k (.bool true) G1:=fun {k}=>z1 (d+4) k
    have z2':∀ {k:K},callP (evP cp t fuel (d+6)) (.func 46 []) [.agg s.cells] G1 k=k (tv (bodyOf s)) G2:=fun {k}=>z2 d k
    rw [hv] at h0
    rw [evL_succ]
    simp only [go_sem,↓op_app,reduceCtorEq,Nat.reduceAdd,Nat.reduceSub,Nat.reduceMul,Nat.reduceEqDiff,Nat.reduceLT,Nat.reduceDiv,Nat.reduceMod,Nat.reduceLeDiff,↓reduceIte,c9l0,h0,h4,h5,hlt,e1,e2,e3,e8,e9,↓zr1,↓zr2,↓z1',↓z2',vStr_tv,q1,q2,s1,s2]
    refine hx _ ?_ ?_ ?_ <;> simp only [go_sem,↓op_app,reduceCtorEq,Nat.reduceAdd,Nat.reduceSub,Nat.reduceMul,Nat.reduceEqDiff,Nat.reduceLT,Nat.reduceDiv,Nat.reduceMod,Nat.reduceLeDiff,↓reduceIte,h0,hv]
   rcases z3 with ⟨a1,a2⟩ | ⟨a1,a2⟩
   ·refine ⟨G',f',Or.inl ⟨a1,fun d kx r e hr h0 h4 h5 x hx => ?_⟩⟩
    obtain ⟨r,rfl⟩:∃ q,r=q+1:=⟨r-1,by omega⟩
    exact run d kx r e h0 h4 h5 x fun e' p0 p4 p5=>a2 d kx r e' (by omega) p0 p4 p5 x hx
   ·refine ⟨G',f',Or.inr ⟨a1,fun d kx r e hr h0 h4 h5 x hx => ?_⟩⟩
    obtain ⟨r,rfl⟩:∃ q,r=q+1:=⟨r-1,by omega⟩
    exact run d kx r e h0 h4 h5 x fun e' p0 p4 p5=>a2 d kx r e' (by omega) p0 p4 p5 x hx
  ·have hm2:mayS s=false:=by simpa using hm1
   rw [hm2] at z1
   refine ⟨G1,f.trans f1,Or.inr ⟨⟨s,hmem,hm1⟩,fun d kx r e hr h0 h4 h5 x hx => ?_⟩⟩
   obtain ⟨r,rfl⟩:∃ q,r=q+1:=⟨r-1,by omega⟩
   have z1':∀ {k:K},callP (evP cp t fuel (d+6)) (.func 44 []) [.agg s.cells] G k=k (.bool false) G1:=fun {k}=>z1 (d+4) k
   rw [hv] at h0
   rw [evL_succ]
   simp only [go_sem,↓op_app,reduceCtorEq,Nat.reduceAdd,Nat.reduceSub,Nat.reduceMul,Nat.reduceEqDiff,Nat.reduceLT,Nat.reduceDiv,Nat.reduceMod,Nat.reduceLeDiff,↓reduceIte,c9l0,h0,h4,h5,hlt,e1,e2,e3,e8,e9,↓zr1,↓z1']
   exact hx _ (by simp only [go_sem,reduceCtorEq,↓reduceIte]) (by simp only [go_sem,reduceCtorEq,↓reduceIte])
theorem rprint_call (T:TCode t) (hw:H.wf) (hfu:1000001<fuel) {v:V} {l:List Stp} (hl:StAt H v l) (hn:l.length≤4096) (hok:∀ s ∈ l,StOK s) :
  ∃ G,Fresh H G ∧ ∀ (d:Nat) (k:K),callP (evP cp t fuel (d+7)) (.func 18 []) [v] H k=k (.tup [tv (printP l).1, .int 3 (printP l).2]) G:=by
 have hs:=fun {id:Nat} {f:Nat→R}=>hl.sn (id:=id) (f:=f)
 have e8:l.length<9223372036854775808:=by omega
 have e2:nn l.length:=e8
 have e3:¬ 4096<l.length:=by omega
 obtain ⟨G,f,h⟩:=rprint_loop (cp:=cp) (fuel:=fuel) T hfu hl hn hok l.length 0 H (by omega) (Fresh.refl hw) (by simp)
 refine ⟨G,f,fun d k => ?_⟩
 rw [call_entry T.k9 rfl rfl]
 simp only [go_sem,↓op_app,reduceCtorEq,Nat.reduceAdd,Nat.reduceSub,Nat.reduceMul,Nat.reduceEqDiff,Nat.reduceLT,Nat.reduceDiv,Nat.reduceMod,Nat.reduceLeDiff,↓reduceIte,c9,↓hs,e8,e2,e3]
 rcases h with ⟨h1,h2⟩ | ⟨h1,h2⟩
 ·rw [printP_ok h1 hn]
  refine h2 d _ fuel _ (by omega) ?_ ?_ ?_ _ fun e' q4 => ?_
  ·simp only [go_sem,reduceCtorEq,↓reduceIte]
  ·simp only [go_sem,↓op_app,reduceCtorEq,Nat.reduceAdd,Nat.reduceSub,Nat.reduceMul,Nat.reduceEqDiff,Nat.reduceLT,Nat.reduceDiv,Nat.reduceMod,Nat.reduceLeDiff,↓reduceIte,List.flatMap_nil,tv_nil]
  ·simp only [go_sem,reduceCtorEq,↓reduceIte]
  ·simp only [go_sem,reduceCtorEq,↓reduceIte,q4]
 ·rw [printP_bad h1 hn]
  refine h2 d _ fuel _ (by omega) ?_ ?_ ?_ _ fun e' q2 q3 => ?_
  ·simp only [go_sem,reduceCtorEq,↓reduceIte]
  ·simp only [go_sem,↓op_app,reduceCtorEq,Nat.reduceAdd,Nat.reduceSub,Nat.reduceMul,Nat.reduceEqDiff,Nat.reduceLT,Nat.reduceDiv,Nat.reduceMod,Nat.reduceLeDiff,↓reduceIte,List.flatMap_nil,tv_nil]
  ·simp only [go_sem,reduceCtorEq,↓reduceIte]
  ·simp only [go_sem,↓op_app,reduceCtorEq,Nat.reduceAdd,Nat.reduceSub,Nat.reduceMul,Nat.reduceEqDiff,Nat.reduceLT,Nat.reduceDiv,Nat.reduceMod,Nat.reduceLeDiff,↓reduceIte,q2,q3,tv_nil]
end
end Go.Ev
end
section
namespace Go.Ev
def cutS (s:Stp):Stp:={ s with d:=s.d.take (min s.d.length 40) }
theorem cutS_ok {s:Stp} (h:StOK s):StOK (cutS s):=⟨h.k,h.a,h.b,by show (s.d.take _).length<_;rw [List.length_take];omega⟩
section
variable {t:Nat→Option FnE} {cp:RC→CodeE} {fuel:Nat} {H:Heap}
theorem prints_loop (T:TCode t) (hfu:1000001<fuel) {v:V} {l:List Stp} (hl:StAt H v l) (hb:l.length<9223372036854775808) (hok:∀ s ∈ l,StOK s) :
  ∀ (m i:Nat) (G:Heap) (vo:V),i+m=min l.length 100→Fresh H G→Gr H G vo 4 i (Stps ((l.take i).map cutS)) →
  ∃ G' vo',Fresh H G'∧Gr H G' vo' 4 (min l.length 100) (Stps ((l.take (min l.length 100)).map cutS)) ∧ ∀ (d:Nat) (kx:Nat→KE) (r:Nat) (e:Env),m<r→pget ⟨.i0, .i0, .i0⟩ e=v→pget ⟨.i0, .i0, .i3⟩ e=vo→pget ⟨.i0, .i0, .i4⟩ e = .int 3 i →
    ∀ x:R,(∀ e',pget ⟨.i0, .i0, .i0⟩ e'=v→pget ⟨.i0, .i0, .i3⟩ e'=vo'→kx 1 e' G'=x)→evL c3l0 fuel (evP cp t fuel d) kx r e G=x:=by
 have hs:=fun {id:Nat} {f:Nat→R}=>hl.sn (id:=id) (f:=f)
 have n2:nn l.length:=hb
 intro m
 induction m with
 | zero=>
  intro i G vo hi f hv
  have hie:i=min l.length 100:=by omega
  subst hie
  refine ⟨G,vo,f,hv,fun d kx r e hr h0 h3 h4 x hx => ?_⟩
  obtain ⟨r,rfl⟩:∃ q,r=q+1:=⟨r-1,by omega⟩
  have e1:nn (min l.length 100):=by unfold nn;omega
  rw [evL_succ]
  by_cases hlt:min l.length 100<l.length
  ·have e3:¬ min l.length 100<100:=by omega
   simp only [go_sem,↓op_app,reduceCtorEq,Nat.reduceAdd,Nat.reduceSub,Nat.reduceMul,Nat.reduceEqDiff,Nat.reduceLT,Nat.reduceDiv,Nat.reduceMod,Nat.reduceLeDiff,↓reduceIte,c3l0,h0,h3,h4,↓hs,hb,n2,e1,hlt,e3]
   refine hx _ ?_ ?_ <;> simp only [go_sem,reduceCtorEq,↓reduceIte,h0,h3]
  ·simp only [go_sem,↓op_app,reduceCtorEq,Nat.reduceAdd,Nat.reduceSub,Nat.reduceMul,Nat.reduceEqDiff,Nat.reduceLT,Nat.reduceDiv,Nat.reduceMod,Nat.reduceLeDiff,↓reduceIte,c3l0,h0,h3,h4,↓hs,hb,n2,e1,hlt]
   refine hx _ ?_ ?_ <;> simp only [go_sem,reduceCtorEq,↓reduceIte,h0,h3]
 | succ m ih=>
  intro i G vo hi f hv
  have hw:=f.wf
  have hlt:i<l.length:=by omega
  have h100:i<100:=by omega
  obtain ⟨s,g1,hmem,htk⟩:∃ s,l[i]? = some s∧s ∈ l∧l.take (i+1)=l.take i ++ [s]:=⟨l[i],List.getElem?_eq_getElem hlt,List.getElem_mem hlt,List.take_succ_eq_append_getElem hlt⟩
  obtain ⟨b,o,c,z,hvv,zr1⟩:=(hl.fresh f).four g1
  have O:=hok s hmem
  have e1:nn i:=by unfold nn;omega
  have e3:i<9223372036854775808:=by omega
  have e9:(i+1) % 18446744073709551616=i+1:=by omega
  have d1:s.d.length<9223372036854775808:=O.d
  have d2:nn s.d.length:=d1
  have d3:min s.d.length 40<9223372036854775808:=by omega
  have d4:min s.d.length 40≤s.d.length:=by omega
  have eS:V.str (min s.d.length 40-0) (enc s.d >>> 0 % 256 ^ (min s.d.length 40-0))=tv (cutS s).d:=by
   show V.str (min s.d.length 40-0) (enc s.d >>> (8 * 0) % 256 ^ (min s.d.length 40-0))=_
   rw [str_sl (Nat.zero_le _) d4,List.drop_zero,Nat.sub_zero]
   rfl
  generalize hG1:(G.new (.cells [.int 3 0, .int 3 0, .int 3 0, .str 0 0])).put G.n (.cells s.cells)=G1
  have f0:Fresh G (G.new (.cells [.int 3 0, .int 3 0, .int 3 0, .str 0 0])):=Fresh.new hw
  have f1:Fresh G G1:=by rw [← hG1];exact f0.put (Nat.le_refl _) (by rw [Heap.n_new];omega)
  have g1n:G1.n=G.n+1:=by rw [← hG1,Heap.n_put,Heap.n_new]
  have g1x:G1.get G.n = .cells s.cells:=by rw [← hG1,Heap.get_put f0.wf (by rw [Heap.n_new];omega),if_pos rfl]
  have hw1:=f1.wf
  have l1:G.n<G.n+1:=by omega
  generalize hG2:G1.put G.n (.cells (cutS s).cells)=G2
  have f2:Fresh G G2:=by rw [← hG2];exact f1.put (Nat.le_refl _) (by omega)
  have g2n:G2.n=G.n+1:=by rw [← hG2,Heap.n_put,g1n]
  have g2x:G2.get G.n = .cells (cutS s).cells:=by rw [← hG2,Heap.get_put hw1 (by omega),if_pos rfl]
  have hw2:=f2.wf
  generalize hG3:G2.new (.cells (cutS s).cells)=G3
  have f3:Fresh G G3:=by rw [← hG3];exact f2.trans (Fresh.new hw2)
  have g3x:G3.get (G.n+1) = .cells (cutS s).cells:=by rw [← hG3,Heap.get_new hw2,if_pos g2n.symm]
  obtain ⟨vo1,G4,zz,hv4,f4,_,_,_⟩:=(hv.fresh f3).app (cx:=2) (sx:=0) (f.trans f3) g3x rfl (fun v hv=>by
   simp only [Stp.cells,List.mem_cons,List.not_mem_nil,or_false] at hv
   rcases hv with rfl | rfl | rfl | rfl <;> rfl) (by omega)
  have hSt:Stps ((l.take (i+1)).map cutS)=Stps ((l.take i).map cutS) ++ (cutS s).cells:=by
   rw [htk,List.map_append]
   simp only [Stps,List.flatMap_append,List.map_cons,List.map_nil,List.flatMap_cons,List.flatMap_nil,List.append_nil]
  rw [← hSt] at hv4
  obtain ⟨G',vo',f',hv',z'⟩:=ih (i+1) G4 vo1 (by omega) f4 hv4
  refine ⟨G',vo',f',hv',fun d kx r e hr h0 h3 h4 x hx => ?_⟩
  obtain ⟨r,rfl⟩:∃ q,r=q+1:=⟨r-1,by omega⟩
  have t1:List.take 4 s.cells=s.cells:=rfl
  have t2:List.take 4 (cutS s).cells=(cutS s).cells:=rfl
  have t3:s.cells.length=4:=rfl
  have t4:(cutS s).cells.length=4:=rfl
  have t5:∀ {q:Stp} {id:Nat} {x:R},allOne id q.cells x=x:=fun {q id x}=>rfl
  have t6:∀ {q:Stp} {id:Nat} {f:List V→R},setAt id q.cells [.int 3 0, .int 3 0, .int 3 0, .str 0 0] 0 f=f q.cells:=fun {q id f}=>rfl
  have t7:∀ {id:Nat} {f:List V→R},setAt id [tv (cutS s).d] s.cells 3 f=f (cutS s).cells:=fun {id f}=>setAt_one (by simp [Stp.cells])
  have t10:List.take 3 s.cells ++ tv (cutS s).d :: List.drop 4 s.cells=(cutS s).cells:=rfl
  have t8:∀ {q:Stp} {id:Nat} {f:List V→R},dropN id q.cells 0 f=f q.cells:=fun {q id f}=>rfl
  have t9:∀ {q:Stp} {id:Nat} {f:List V→R},takeN id q.cells 4 f=f q.cells:=fun {q id f}=>rfl
  have zc3:∀ {id:Nat} {f:V→R},nth id s.cells 3 f=f (tv s.d):=fun {id f}=>rfl
  have i1:∀ {id:Nat} {k:R},isOne id vo k=k:=fun {id k}=>hv.is1
  have zz':∀ {id:Nat} {ph:Phi} {e':Env} {k:K},pgetA (.s ⟨.i0, .i4, .i0⟩) e'=vo→pgetA (.s ⟨.i0, .i4, .i2⟩) e' = .slice (G.n+1) 0 1 2 0→evOp (.app false 4 (.s ⟨.i0, .i4, .i0⟩) (.s ⟨.i0, .i4, .i2⟩)) id ph e' G3 k=k vo1 G4:=fun {id ph e' k} p q=>zz p q
  rw [hvv] at h0
  rw [evL_succ]
  simp only [go_sem,reduceCtorEq,Nat.reduceAdd,Nat.reduceSub,Nat.reduceMul,Nat.reduceEqDiff,Nat.reduceLT,Nat.reduceDiv,Nat.reduceMod,Nat.reduceLeDiff,↓reduceIte,c3l0,h0,h3,h4,hb,n2,e1,e3,e9,hlt,h100,↓zr1,hw,l1,t1,t2,t3,t4,t5,↓t6,↓t7,↓t8,↓t9,t10,↓zc3,hG1,g1x,g1n,hw1,isOne_tv,vStr_tv,d1,d2,d3,d4,eS,hG2,g2x,g2n,hw2,hG3,↓zz']
  refine z' d kx r _ (by omega) ?_ ?_ ?_ x hx <;> simp only [go_sem,↓op_app,reduceCtorEq,Nat.reduceAdd,Nat.reduceSub,Nat.reduceMul,Nat.reduceEqDiff,Nat.reduceLT,Nat.reduceDiv,Nat.reduceMod,Nat.reduceLeDiff,↓reduceIte,h0,hvv]
theorem prints_law (T:TCode t) (hp:t 8=some (.nat nPrint)) (hwk:t 10=some (.nat nWorks)) (hw:H.wf) (hfu:1000001<fuel) {v:V} {l:List Stp} (hl:StAt H v l) (hb:l.length<9223372036854775808) (hok:∀ s ∈ l,StOK s) :
  ∃ G,Fresh H G ∧ ∀ (d:Nat) (k:K),callP (evP cp t fuel (d+8)) (.func 6 []) [v] H k=k (.bool true) G:=by
 obtain ⟨G1,vo,f1,gv,z1⟩:=prints_loop (cp:=cp) (fuel:=fuel) T hfu hl hb hok (min l.length 100) 0 H .nils (by omega) (Fresh.refl hw) (by rw [List.take_zero];exact Gr.nils)
 generalize hL:(l.take (min l.length 100)).map cutS=L at gv
 have hLl:L.length=min l.length 100:=by rw [← hL,List.length_map,List.length_take];omega
 rw [← hLl] at gv
 have hst:=gv.stAt
 have hLok:∀ s ∈ L,StOK s:=fun s hs=>by
  rw [← hL] at hs
  obtain ⟨s',h1,rfl⟩:=List.mem_map.1 hs
  exact cutS_ok (hok s' (List.mem_of_mem_take h1))
 have hpr:=fun {d:Nat} {k:K}=>print_call (cp:=cp) (fuel:=fuel) (d:=d) (k:=k) hp hst (by omega) hLok
 obtain ⟨G2,f2,z2⟩:=rprint_call (cp:=cp) (fuel:=fuel) T f1.wf hfu hst (by omega) hLok
 have hwc:=fun {d:Nat} {k:K} {G:Heap}=>works_call (cp:=cp) (fuel:=fuel) (d:=d) (k:=k) (G:=G) hwk
 refine ⟨G2,f1.trans f2,fun d k => ?_⟩
 have z2':∀ {k:K},callP (evP cp t fuel (d+7)) (.func 18 []) [vo] G1 k=k (.tup [tv (printP L).1, .int 3 (printP L).2]) G2:=fun {k}=>z2 d k
 rw [call_entry T.k3 rfl rfl]
 simp only [go_sem,↓op_app,reduceCtorEq,Nat.reduceAdd,Nat.reduceSub,Nat.reduceMul,Nat.reduceEqDiff,Nat.reduceLT,Nat.reduceDiv,Nat.reduceMod,Nat.reduceLeDiff,↓reduceIte,c3,c3r1,c3r2]
 refine z1 (d+7) _ fuel _ (by omega) ?_ ?_ ?_ _ fun e' q0 q3 => ?_
 ·simp only [go_sem,reduceCtorEq,↓reduceIte]
 ·simp only [go_sem,reduceCtorEq,↓reduceIte]
 ·simp only [go_sem,reduceCtorEq,↓reduceIte]
 ·simp only [go_sem,↓op_app,reduceCtorEq,Nat.reduceAdd,Nat.reduceSub,Nat.reduceMul,Nat.reduceEqDiff,Nat.reduceLT,Nat.reduceDiv,Nat.reduceMod,Nat.reduceLeDiff,↓reduceIte,c3r3,c3r4,c3r5,c3r6,q3,hpr,z2',vStr_tv,and_self,hwc]
end
end Go.Ev
end
