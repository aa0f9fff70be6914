/- frame: a text's sectors,and back. -/
import Derived.Test.YtalmhjlkdhlbiaaGreatDoorFrameRef
open Nat renaming le_refl → YA
open List renaming flatten_cons → WO,length → Wo
set_option linter.unusedVariables false
set_option linter.unusedSimpArgs false
set_option linter.unusedSectionVars false
namespace Go.Proofs.YtalmhjlkdhlbiaaGreatDoor
open Go.RowKit Go.Wd
theorem Aq (k:Nat):∀ (l:List UInt8),l.length<=k->∀ x ∈ chunks l,x.length=32:=by
 induction k with
 | zero=>intro l h;obtain rfl:l=[]:=List.eq_nil_of_length_eq_zero (by omega);intro x hx;simp [jQ]at hx
 | succ k ih=>
  intro l h x hx
  by_cases h0:l=[]
  .subst h0;simp [jQ]at hx
  .have hpos:0<l.length:=List.length_pos_iff.2 h0
   rw [fZ h0]at hx
   rcases List.mem_cons.1 hx with rfl|hx
   .exact zo l
   .exact ih _ (by simp;omega) x hx
/-- A text's sectors. -/
def fK (t:List UInt8):List (List UInt8):=chunks (eC t)
theorem mF (t:List UInt8):∀ x ∈ fK t,x.length=32:=Aq _ _ (YA _)
theorem tD (t:List UInt8):(fK t).flatten=kh t:=by
 unfold fK
 rw [<- CG]
 exact CE _ _ (YA _) (by rw [pI];omega)
theorem lZ (t:List UInt8):(fK t).length=(t.length+37)/32:=by
 have h:=F9 (fK t) (mF t)
 rw [tD,pI]at h
 omega
theorem Jf (t:List UInt8) (h:t.length<65536):iE (kh t)=t.length:=by
 simp [iE,kh,eC,pS]
 omega
theorem DU (t:List UInt8):((kh t).drop 6).take t.length=t:=by
 simp [kh,eC,pS,lE]
theorem Kx (t:List UInt8) (h:t.length<=8192):l4 (fK t)=some t:=by
 have hl:=lZ t
 have hall:((fK t).take 301).all (λs=>s.length == 32)=true:=by
  rw [List.all_eq_true]
  intro x hx
  simpa using mF t x (List.mem_of_mem_take hx)
 unfold l4
 rw [if_pos hall,tD,if_neg,oO,Jf t (by omega),if_neg,DU,if_neg]
 .simp
 .rw [pI];omega
 .intro h'
  rcases h' with h'|h'
  .have:=congrArg Wo h'
   rw [pI]at this
   simp at this
   omega
  .omega
theorem yJ:∀ (k:Nat) (l:List (List UInt8)),(∀ x ∈ l,x.length=32)->(l.take k).flatten=l.flatten.take (32*k)
 | 0,l,_=>by simp
 | k+1,[],_=>by simp
 | k+1,x :: l,h=>by
  have hx:=h x (List.mem_cons_self ..)
  rw [List.take_succ_cons,WO,WO,yJ k l λy hy=>h y (List.mem_cons_of_mem _ hy),show 32*(k+1)=x.length+32*k by omega,List.take_length_add_append]
theorem Hc (t:List UInt8) (k:Nat) (h:t.length<=8192) (hk:k<(fK t).length):l4 ((fK t).take k)=none:=by
 have hf:=yJ k (fK t) (mF t)
 rw [tD]at hf
 have hl:=lZ t
 have hpl:=pI t
 have hql:((kh t).take (32*k)).length=32*k:=by rw [List.length_take];omega
 unfold l4
 split
 .rw [hf]
  by_cases h0:(kh t).take (32*k)=[]\/300<((fK t).take k).length
  .rw [if_pos h0]
  .rw [if_neg h0]
   have hk0:0<k:=by
    rcases Nat.eq_zero_or_pos k with rfl|h1
    .exact absurd (Or.inl (by simp)) h0
    .exact h1
   have hn:iE ((kh t).take (32*k))=t.length:=by
    rw [<- Jf t (by omega)]
    obtain ⟨a,b,r,hr⟩:∃ a b r,kh t=a :: b :: r:=by
     match hq:kh t,hpl with
     | [],e=>simp at e;omega
     | [a],e=>simp at e;omega
     | a :: b :: r,_=>exact ⟨a,b,r,rfl⟩
    rw [hr,show 32*k=(32*k-2)+2 by omega]
    rfl
   unfold oO
   rw [hn]
   by_cases h1:8192<t.length\/((kh t).take (32*k)).length<6+t.length
   .rw [if_pos h1]
   .rw [if_neg h1]
    have he:(((kh t).take (32*k)).drop 6).take t.length=t:=by
     rw [List.drop_take,List.take_take,show min t.length (32*k-6)=t.length by omega]
     exact DU t
    rw [he,if_pos]
    intro e
    have:=congrArg Wo e
    rw [hql,hpl]at this
    omega
 .rfl
theorem OY (l:List UInt8) (w:World) (hs:l.length<=8192):
 Calls Tryz.prog 123 #[.string (fy l)] w λe w'=>∃ v,e = .returned (.tuple #[v,.int .i64 0])/\
  w'.ownsRow w.heap.size 9 1 v (fK l).length (strs (fK l))/\Below w.heap.size w w':=OX l w hs
end Go.Proofs.YtalmhjlkdhlbiaaGreatDoor
