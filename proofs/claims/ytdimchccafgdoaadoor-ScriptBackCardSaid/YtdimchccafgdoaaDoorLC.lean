/- LC: a part of the evaluator,of its logic,or of the laws' walk in it. -/
import Derived.Test.YtdimchccafgdoaaDoorLB
set_option linter.unusedVariables false
set_option linter.unusedSimpArgs false
set_option linter.unusedSectionVars false
section
namespace Go.Ev
open Go.RowKit
def lineOf (s:Stp):List UInt8:=match kindsT[s.k]? with
 | none => []
 | some r=>r.w ++ (32 :: decD s.a) ++ (if r.b=neg1 then [] else 32 :: decD s.b) ++ (if r.d=true then 32 :: s.d else []) ++ [10]
def mayS (s:Stp):Bool:=match kindsT[s.k]? with
 | none=>false
 | some r=>mayB r s
def printP (l:List Stp):List UInt8 × Nat:=if 4096<l.length then ([],3) else if l.all mayS=true then (l.flatMap lineOf,0) else ([],2)
def stepsOf:List V→Option (List Stp)
 | []=>some []
 | .int 3 k :: .int 3 a :: .int 3 b :: .str l n :: r=>(stepsOf r).map (⟨k,a,b,sbytes l n⟩ :: ·)
 | _=>none
theorem stepsOf_Stps:∀ l:List Stp,stepsOf (Stps l)=some l
 | []=>rfl
 | s :: l=>by
  show (stepsOf (Stps l)).map (⟨s.k,s.a,s.b,sbytes s.d.length (enc s.d)⟩ :: ·)=_
  rw [stepsOf_Stps l,sbytes_enc]
  rfl
structure StOK (s:Stp):Prop where
 k:s.k<18446744073709551616
 a:s.a<18446744073709551616
 b:s.b<18446744073709551616
 d:s.d.length<9223372036854775808
noncomputable def nPrint (args:List V) (H:Heap) (k:K):R:=match args with
 | [v]=>vSliceN 0 v (fun b o n _ _=>if n=0 then k (.tup [.str 0 0, .int 3 0]) H else if n≤1000000 then rdN 0 H b o (n * 4) fun l=>match stepsOf l with
   | some ss=>if ss.all (fun s=>decide (s.d.length<9223372036854775808))=true then k (.tup [tv (printP ss).1, .int 3 (printP ss).2]) H else no 0
   | none=>no 0
  else no 0) (k (.tup [.str 0 0, .int 3 0]) H)
 | _=>no 0
def StAt (H:Heap) (v:V) (l:List Stp):Prop:=(NoneV v∧l=[]) ∨ ∃ b o c s row,v = .slice b o l.length c s∧isRow (H.get b) row∧b<H.n∧o+l.length * 4≤row.length∧(row.drop o).take (l.length * 4)=Stps l
theorem Stps_one:∀ {l:List Stp},∀ v ∈ Stps l,v.one=true:=fun {l} v hv=>by
 obtain ⟨s,_,hs⟩:=List.mem_flatMap.1 hv
 simp only [Stp.cells,List.mem_cons,List.not_mem_nil,or_false] at hs
 rcases hs with rfl | rfl | rfl | rfl <;> rfl
theorem StAt.sn {H:Heap} {v:V} {l:List Stp} (h:StAt H v l) {id:Nat} {f:Nat→R}:vSliceN id v (fun _ _ len _ _=>f len) (f 0)=f l.length:=by
 rcases h with ⟨rfl | ⟨_,_,_,_,rfl⟩,rfl⟩ | ⟨_,_,_,_,_,rfl,_⟩ <;> rfl
theorem StAt.one {H:Heap} {v:V} {l:List Stp} (h:StAt H v l):v.one=true:=by
 rcases h with ⟨rfl | ⟨_,_,_,_,rfl⟩,rfl⟩ | ⟨_,_,_,_,_,rfl,_⟩ <;> rfl
theorem StAt.fresh {H G:Heap} {v:V} {l:List Stp} (h:StAt H v l) (f:Fresh H G):StAt G v l:=by
 rcases h with h | ⟨b,o,c,s,row,h1,h2,h3,h4,h5⟩
 ·exact Or.inl h
 ·exact Or.inr ⟨b,o,c,s,row,h1,by rw [f.same b h3];exact h2,Nat.lt_of_lt_of_le h3 f.n,h4,h5⟩
theorem Gr.stAt {H G:Heap} {v:V} {l:List Stp} (h:Gr H G v 4 l.length (Stps l)):StAt G v l:=by
 obtain ⟨zr1,zr2,⟨rfl,zr3⟩ | ⟨b,c,sz,rfl,zr3,zr4,zr5,zr6,zr7⟩⟩:=h
 ·exact Or.inl ⟨Or.inl rfl,List.eq_nil_of_length_eq_zero zr3⟩
 ·exact Or.inr ⟨b,0,c,sz,_,rfl,Or.inl zr5,zr7,by rw [zr1];omega,by rw [List.drop_zero,List.take_of_length_le (by omega)]⟩
theorem rdN_row {H:Heap} {b o n:Nat} {row l:List V} {id:Nat} {f:List V→R} (hr:isRow (H.get b) row) (hl:o+n≤row.length) (he:(row.drop o).take n=l) (h1:∀ v ∈ l,v.one=true):rdN id H b o n f=f l:=by
 rw [rdN_on]
 rcases hr with hr | hr
 ·rw [hr,rdNB_cells,dropN_eq (by omega),takeN_eq (by rw [List.length_drop];omega),he]
 ·rw [hr,rdNB_view,dropN_eq (by omega),takeN_eq (by rw [List.length_drop];omega),he]
  exact allOne_all h1
section
variable {t:Nat→Option FnE} {cp:RC→CodeE} {fuel d:Nat} {H:Heap} {k:K}
theorem print_call (hp:t 5=some (.nat nPrint)) {v:V} {l:List Stp} (h:StAt H v l) (hl:l.length≤1000000) (hok:∀ s ∈ l,StOK s):callP (evP cp t fuel (d+1)) (.func 10 []) [v] H k=k (.tup [tv (printP l).1, .int 3 (printP l).2]) H:=by
 rw [call_nat hp rfl rfl]
 have h0:k (.tup [.str 0 0, .int 3 0]) H=k (.tup [tv (printP []).1, .int 3 (printP []).2]) H:=rfl
 rcases h with ⟨rfl | ⟨_,_,_,_,rfl⟩,rfl⟩ | ⟨b,o,c,s,row,rfl,h2,h3,h4,h5⟩
 ·rfl
 ·rfl
 ·show (if l.length=0 then k (.tup [.str 0 0, .int 3 0]) H else if l.length≤1000000 then rdN 0 H b o (l.length * 4) (fun l=>match stepsOf l with
   | some ss=>if ss.all (fun s=>decide (s.d.length<9223372036854775808))=true then k (.tup [tv (printP ss).1, .int 3 (printP ss).2]) H else no 0
   | none=>no 0) else no 0)=_
  by_cases hl0:l.length=0
  ·rw [if_pos hl0,List.eq_nil_of_length_eq_zero hl0]
   rfl
  ·rw [if_neg hl0,if_pos hl,rdN_row h2 h4 h5 Stps_one,stepsOf_Stps]
   show (if l.all (fun s=>decide (s.d.length<9223372036854775808))=true then _ else _)=_
   rw [if_pos (List.all_eq_true.2 fun s hs=>decide_eq_true (hok s hs).d)]
end
end Go.Ev
end
