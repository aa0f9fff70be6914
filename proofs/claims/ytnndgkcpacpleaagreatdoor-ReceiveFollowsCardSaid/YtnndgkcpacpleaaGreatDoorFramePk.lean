/- frame: a text's sectors,and back. -/
import Derived.Test.YtnndgkcpacpleaaGreatDoorFrameRef
open Nat renaming le_refl → YB
open List renaming flatten_cons → WU,length → Wv
namespace Go.Proofs.YtnndgkcpacpleaaGreatDoor
open Go.RowKit Go.Wd
theorem BN (k:Nat):∀ (l:List UInt8),l.length<=k->∀ x ∈ chunks l,x.length=32:=by
 induction k with
 | zero=>intro l h;obtain rfl:l=[]:=List.eq_nil_of_length_eq_zero (by omega);intro x hx;simp [kB]at hx
 | succ k ih=>
  intro l h x hx
  by_cases h0:l=[]
  .subst h0;simp [kB]at hx
  .have hpos:0<l.length:=List.length_pos_iff.2 h0
   rw [gG h0]at hx
   rcases List.mem_cons.1 hx with rfl|hx
   .exact AU l
   .exact ih _ (by simp;omega) x hx
/-- A text's sectors. -/
def fY (t:List UInt8):List (List UInt8):=chunks (eQ t)
theorem nD (t:List UInt8):∀ x ∈ fY t,x.length=32:=BN _ _ (YB _)
theorem tX (t:List UInt8):(fY t).flatten=kR t:=by
 unfold fY
 rw [<- EI]
 exact EH _ _ (YB _) (by rw [qu];omega)
theorem mI (t:List UInt8):(fY t).length=(t.length+37)/32:=by
 have h:=JQ (fY t) (nD t)
 rw [tX,qu]at h
 omega
theorem Mu (t:List UInt8) (h:t.length<65536):iO (kR t)=t.length:=by
 simp [iO,kR,eQ,qF]
 omega
theorem Hj (t:List UInt8):((kR t).drop 6).take t.length=t:=by
 simp [kR,eQ,qF,lW]
theorem N7 (t:List UInt8) (h:t.length<=8192):mM (fY t)=some t:=by
 have hl:=mI t
 have hall:((fY t).take 301).all (λs=>s.length == 32)=true:=by
  rw [List.all_eq_true]
  intro x hx
  simpa using nD t x (List.mem_of_mem_take hx)
 unfold mM
 rw [if_pos hall,tX,if_neg,pR,Mu t (by omega),if_neg,Hj,if_neg]
 .simp
 .rw [qu];omega
 .intro h'
  rcases h' with h'|h'
  .have:=congrArg Wv h'
   rw [qu]at this
   simp at this
   omega
  .omega
theorem Au:∀ (k:Nat) (l:List (List UInt8)),(∀ x ∈ l,x.length=32)->(l.take k).flatten=l.flatten.take (32*k)
 | 0,l,_=>by simp
 | k+1,[],_=>by simp
 | k+1,x :: l,h=>by
  have hx:=h x (List.mem_cons_self ..)
  rw [List.take_succ_cons,WU,WU,Au k l λy hy=>h y (List.mem_cons_of_mem _ hy),show 32*(k+1)=x.length+32*k by omega,List.take_length_add_append]
theorem Kw (t:List UInt8) (k:Nat) (h:t.length<=8192) (hk:k<(fY t).length):mM ((fY t).take k)=none:=by
 have hf:=Au k (fY t) (nD t)
 rw [tX]at hf
 have hl:=mI t
 have hpl:=qu t
 have hql:((kR t).take (32*k)).length=32*k:=by rw [List.length_take];omega
 unfold mM
 split
 .rw [hf]
  by_cases h0:(kR t).take (32*k)=[]\/300<((fY t).take k).length
  .rw [if_pos h0]
  .rw [if_neg h0]
   have hk0:0<k:=by
    rcases Nat.eq_zero_or_pos k with rfl|h1
    .exact absurd (Or.inl (by simp)) h0
    .exact h1
   have hn:iO ((kR t).take (32*k))=t.length:=by
    rw [<- Mu t (by omega)]
    obtain ⟨a,b,r,hr⟩:∃ a b r,kR t=a :: b :: r:=by
     match hq:kR t,hpl with
     | [],e=>simp at e;omega
     | [a],e=>simp at e;omega
     | a :: b :: r,_=>exact ⟨a,b,r,rfl⟩
    rw [hr,show 32*k=(32*k-2)+2 by omega]
    rfl
   unfold pR
   rw [hn]
   by_cases h1:8192<t.length\/((kR t).take (32*k)).length<6+t.length
   .rw [if_pos h1]
   .rw [if_neg h1]
    have he:(((kR t).take (32*k)).drop 6).take t.length=t:=by
     rw [List.drop_take,List.take_take,show min t.length (32*k-6)=t.length by omega]
     exact Hj t
    rw [he,if_pos]
    intro e
    have:=congrArg Wv e
    rw [hql,hpl]at this
    omega
 .rfl
theorem S8 (l:List UInt8) (w:World) (hs:l.length<=8192):
 Calls Tryz.prog 102 #[.string (fQ l)] w λe w'=>∃ v,e = .returned (.tuple #[v,.int .i64 0])/\
  w'.ownsRow w.heap.size 9 1 v (fY l).length (strs (fY l))/\Below w.heap.size w w':=SZ l w hs
end Go.Proofs.YtnndgkcpacpleaaGreatDoor
