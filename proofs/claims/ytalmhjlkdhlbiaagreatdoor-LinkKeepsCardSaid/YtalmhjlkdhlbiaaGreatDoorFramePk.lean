/- frame: a text's sectors,and back. -/
import Derived.Test.YtalmhjlkdhlbiaaGreatDoorFrameRef
open Nat renaming le_refl → YA
open List renaming flatten_cons → WQ,length → Wm
namespace Go.Proofs.YtalmhjlkdhlbiaaGreatDoor
open Go.RowKit Go.Wd
theorem Au (k:Nat):∀ (l:List UInt8),l.length<=k->∀ x ∈ chunks l,x.length=32:=by
 induction k with
 | zero=>intro l h;obtain rfl:l=[]:=List.eq_nil_of_length_eq_zero (by omega);intro x hx;simp [jQ]at hx
 | succ k ih=>
  intro l h x hx
  by_cases h0:l=[]
  .subst h0;simp [jQ]at hx
  .have hpos:0<l.length:=List.length_pos_iff.2 h0
   rw [fV h0]at hx
   rcases List.mem_cons.1 hx with rfl|hx
   .exact zj l
   .exact ih _ (by simp;omega) x hx
/-- A text's sectors. -/
def fJ (t:List UInt8):List (List UInt8):=chunks (eE t)
theorem mO (t:List UInt8):∀ x ∈ fJ t,x.length=32:=Au _ _ (YA _)
theorem tF (t:List UInt8):(fJ t).flatten=kq t:=by
 unfold fJ
 rw [<- CT]
 exact CR _ _ (YA _) (by rw [pR];omega)
theorem me (t:List UInt8):(fJ t).length=(t.length+37)/32:=by
 have h:=GH (fJ t) (mO t)
 rw [tF,pR]at h
 omega
theorem JF (t:List UInt8) (h:t.length<65536):iF (kq t)=t.length:=by
 simp [iF,kq,eE,qc]
 omega
theorem Ej (t:List UInt8):((kq t).drop 6).take t.length=t:=by
 simp [kq,eE,qc,lG]
theorem KZ (t:List UInt8) (h:t.length<=8192):mg (fJ t)=some t:=by
 have hl:=me t
 have hall:((fJ t).take 301).all (λs=>s.length == 32)=true:=by
  rw [List.all_eq_true]
  intro x hx
  simpa using mO t x (List.mem_of_mem_take hx)
 unfold mg
 rw [if_pos hall,tF,if_neg,pg,JF t (by omega),if_neg,Ej,if_neg]
 .simp
 .rw [pR];omega
 .intro h'
  rcases h' with h'|h'
  .have:=congrArg Wm h'
   rw [pR]at this
   simp at this
   omega
  .omega
theorem yI:∀ (k:Nat) (l:List (List UInt8)),(∀ x ∈ l,x.length=32)->(l.take k).flatten=l.flatten.take (32*k)
 | 0,l,_=>by simp
 | k+1,[],_=>by simp
 | k+1,x :: l,h=>by
  have hx:=h x (List.mem_cons_self ..)
  rw [List.take_succ_cons,WQ,WQ,yI k l λy hy=>h y (List.mem_cons_of_mem _ hy),show 32*(k+1)=x.length+32*k by omega,List.take_length_add_append]
theorem HG (t:List UInt8) (k:Nat) (h:t.length<=8192) (hk:k<(fJ t).length):mg ((fJ t).take k)=none:=by
 have hf:=yI k (fJ t) (mO t)
 rw [tF]at hf
 have hl:=me t
 have hpl:=pR t
 have hql:((kq t).take (32*k)).length=32*k:=by rw [List.length_take];omega
 unfold mg
 split
 .rw [hf]
  by_cases h0:(kq t).take (32*k)=[]\/300<((fJ t).take k).length
  .rw [if_pos h0]
  .rw [if_neg h0]
   have hk0:0<k:=by
    rcases Nat.eq_zero_or_pos k with rfl|h1
    .exact absurd (Or.inl (by simp)) h0
    .exact h1
   have hn:iF ((kq t).take (32*k))=t.length:=by
    rw [<- JF t (by omega)]
    obtain ⟨a,b,r,hr⟩:∃ a b r,kq t=a :: b :: r:=by
     match hq:kq t,hpl with
     | [],e=>simp at e;omega
     | [a],e=>simp at e;omega
     | a :: b :: r,_=>exact ⟨a,b,r,rfl⟩
    rw [hr,show 32*k=(32*k-2)+2 by omega]
    rfl
   unfold pg
   rw [hn]
   by_cases h1:8192<t.length\/((kq t).take (32*k)).length<6+t.length
   .rw [if_pos h1]
   .rw [if_neg h1]
    have he:(((kq t).take (32*k)).drop 6).take t.length=t:=by
     rw [List.drop_take,List.take_take,show min t.length (32*k-6)=t.length by omega]
     exact Ej t
    rw [he,if_pos]
    intro e
    have:=congrArg Wm e
    rw [hql,hpl]at this
    omega
 .rfl
theorem OV (l:List UInt8) (w:World) (hs:l.length<=8192):
 Calls Tryz.prog 123 #[.string (fv l)] w λe w'=>∃ v,e = .returned (.tuple #[v,.int .i64 0])/\
  w'.ownsRow w.heap.size 9 1 v (fJ l).length (strs (fJ l))/\Below w.heap.size w w':=OU l w hs
end Go.Proofs.YtalmhjlkdhlbiaaGreatDoor
