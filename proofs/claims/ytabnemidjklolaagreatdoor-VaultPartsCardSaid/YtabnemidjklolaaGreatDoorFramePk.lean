/- frame: a text's sectors,and back. -/
import Derived.Test.YtabnemidjklolaaGreatDoorFrameRef
open Nat renaming le_refl→YC
open List renaming flatten_cons→WO,length→Wz
namespace Go.Proofs.YtabnemidjklolaaGreatDoor
open Go.RowKit Go.Wd
theorem Bx(k:Nat):∀(l:List UInt8),l.length<=k->∀x∈chunks l,x.length=32:=by induction k with|zero=>intro l h;obtain rfl:l=[]:=List.eq_nil_of_length_eq_zero (by omega);intro x hx;simp[kA]at hx|succ k ih=>
  intro l h x hx;by_cases h0:l=[];.subst h0;simp[kA]at hx
  .have hpos:0<l.length:=List.length_pos_iff.2 h0;rw[gE h0]at hx;rcases List.mem_cons.1 hx with rfl|hx;.exact AS l
   .exact ih _ (by simp;omega) x hx
/-- A text's sectors. -/
def fS (t:List UInt8):List (List UInt8):=chunks (eG t)
theorem mZ(t:List UInt8):∀x∈fS t,x.length=32:=Bx _ _ (YC _)
theorem tP(t:List UInt8):(fS t).flatten=kN t:=by unfold fS;rw[<-D6];exact D0 _ _ (YC _) (by rw[qf];omega)
theorem mA(t:List UInt8):(fS t).length=(t.length+37)/32:=by have h:=ID (fS t) (mZ t);rw[tP,qf]at h;omega
theorem K8(t:List UInt8)(h:t.length<65536):iO (kN t)=t.length:=by simp[iO,kN,eG,qw];omega
theorem FE(t:List UInt8):((kN t).drop 6).take t.length=t:=by simp[kN,eG,qw,lQ]
theorem NG(t:List UInt8)(h:t.length<=8192):mC (fS t)=some t:=by
 have hl:=mA t;have hall:((fS t).take 301).all (λs=>s.length==32)=true:=by rw[List.all_eq_true];intro x hx;simpa using mZ t x (List.mem_of_mem_take hx)
 unfold mC;rw[if_pos hall,tP,if_neg,pE,K8 t (by omega),if_neg,FE,if_neg];.simp
 .rw[qf];omega
 .intro h';rcases h' with h'|h';.have:=congrArg Wz h';rw[qf]at this;simp at this;omega
  .omega
theorem Av:∀(k:Nat)(l:List (List UInt8)),(∀x∈l,x.length=32)->(l.take k).flatten=l.flatten.take (32*k)|0,l,_=>by simp|k+1,[],_=>by simp|k+1,x::l,h=>by have hx:=h x (List.mem_cons_self ..);rw[List.take_succ_cons,WO,WO,Av k l λy hy=>h y (List.mem_cons_of_mem _ hy),show 32*(k+1)=x.length+32*k by omega,List.take_length_add_append]
theorem Jk(t:List UInt8)(k:Nat)(h:t.length<=8192)(hk:k<(fS t).length):mC ((fS t).take k)=none:=by
 have hf:=Av k (fS t) (mZ t);rw[tP]at hf;have hl:=mA t;have hpl:=qf t;have hql:((kN t).take (32*k)).length=32*k:=by rw[List.length_take];omega
 unfold mC;split
 .rw[hf];by_cases h0:(kN t).take (32*k)=[]\/300<((fS t).take k).length;.rw[if_pos h0]
  .rw[if_neg h0];have hk0:0<k:=by
    rcases Nat.eq_zero_or_pos k with rfl|h1;.exact absurd (Or.inl (by simp)) h0
    .exact h1
   have hn:iO ((kN t).take (32*k))=t.length:=by
    rw[<-K8 t (by omega)];obtain⟨a,b,r,hr⟩:∃a b r,kN t=a::b::r:=by match hq:kN t,hpl with|[],e=>simp at e;omega|[a],e=>simp at e;omega|a::b::r,_=>exact⟨a,b,r,rfl⟩
    rw[hr,show 32*k=(32*k-2)+2by omega];rfl
   unfold pE;rw[hn];by_cases h1:8192<t.length\/((kN t).take (32*k)).length<6+t.length;.rw[if_pos h1]
   .rw[if_neg h1];have he:(((kN t).take (32*k)).drop 6).take t.length=t:=by rw[List.drop_take,List.take_take,show min t.length (32*k-6)=t.length by omega];exact FE t
    rw[he,if_pos];intro e;have:=congrArg Wz e;rw[hql,hpl]at this;omega
 .rfl
theorem Tf(l:List UInt8)(w:World)(hs:l.length<=8192):Calls Tryz.prog 110 #[.string (fK l)] w λe w'=>∃v,e=.returned (.tuple #[v,.int .i64 0])/\w'.ownsRow w.heap.size 9 1 v (fS l).length (strs (fS l))/\Below w.heap.size w w':=Te l w hs
end Go.Proofs.YtabnemidjklolaaGreatDoor
