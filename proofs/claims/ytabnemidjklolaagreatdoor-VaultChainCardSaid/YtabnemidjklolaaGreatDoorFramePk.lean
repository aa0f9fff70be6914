/- frame: a text's sectors,and back. -/
import Derived.Test.YtabnemidjklolaaGreatDoorFrameRef
open Nat renaming le_refl→YC
open List renaming flatten_cons→WO,length→Wy
namespace Go.Proofs.YtabnemidjklolaaGreatDoor
open Go.RowKit Go.Wd
theorem Bi(k:Nat):∀(l:List UInt8),l.length<=k->∀x∈chunks l,x.length=32:=by induction k with|zero=>intro l h;obtain rfl:l=[]:=List.eq_nil_of_length_eq_zero (by omega);intro x hx;simp[kh]at hx|succ k ih=>
  intro l h x hx;by_cases h0:l=[];.subst h0;simp[kh]at hx
  .have hpos:0<l.length:=List.length_pos_iff.2 h0;rw[gD h0]at hx;rcases List.mem_cons.1 hx with rfl|hx;.exact AE l
   .exact ih _ (by simp;omega) x hx
/-- A text's sectors. -/
def fq (t:List UInt8):List (List UInt8):=chunks (eB t)
theorem mU(t:List UInt8):∀x∈fq t,x.length=32:=Bi _ _ (YC _)
theorem tK(t:List UInt8):(fq t).flatten=kH t:=by unfold fq;rw[<-DP];exact DO _ _ (YC _) (by rw[pZ];omega)
theorem mn(t:List UInt8):(fq t).length=(t.length+37)/32:=by have h:=Ip (fq t) (mU t);rw[tK,pZ]at h;omega
theorem KX(t:List UInt8)(h:t.length<65536):iL (kH t)=t.length:=by simp[iL,kH,eB,qi];omega
theorem Fv(t:List UInt8):((kH t).drop 6).take t.length=t:=by simp[kH,eB,qi,lL]
theorem Nz(t:List UInt8)(h:t.length<=8192):mv (fq t)=some t:=by
 have hl:=mn t;have hall:((fq t).take 301).all (λs=>s.length==32)=true:=by rw[List.all_eq_true];intro x hx;simpa using mU t x (List.mem_of_mem_take hx)
 unfold mv;rw[if_pos hall,tK,if_neg,px,KX t (by omega),if_neg,Fv,if_neg];.simp
 .rw[pZ];omega
 .intro h';rcases h' with h'|h';.have:=congrArg Wy h';rw[pZ]at this;simp at this;omega
  .omega
theorem Ag:∀(k:Nat)(l:List (List UInt8)),(∀x∈l,x.length=32)->(l.take k).flatten=l.flatten.take (32*k)|0,l,_=>by simp|k+1,[],_=>by simp|k+1,x::l,h=>by have hx:=h x (List.mem_cons_self ..);rw[List.take_succ_cons,WO,WO,Ag k l λy hy=>h y (List.mem_cons_of_mem _ hy),show 32*(k+1)=x.length+32*k by omega,List.take_length_add_append]
theorem I0(t:List UInt8)(k:Nat)(h:t.length<=8192)(hk:k<(fq t).length):mv ((fq t).take k)=none:=by
 have hf:=Ag k (fq t) (mU t);rw[tK]at hf;have hl:=mn t;have hpl:=pZ t;have hql:((kH t).take (32*k)).length=32*k:=by rw[List.length_take];omega
 unfold mv;split
 .rw[hf];by_cases h0:(kH t).take (32*k)=[]\/300<((fq t).take k).length;.rw[if_pos h0]
  .rw[if_neg h0];have hk0:0<k:=by
    rcases Nat.eq_zero_or_pos k with rfl|h1;.exact absurd (Or.inl (by simp)) h0
    .exact h1
   have hn:iL ((kH t).take (32*k))=t.length:=by
    rw[<-KX t (by omega)];obtain⟨a,b,r,hr⟩:∃a b r,kH t=a::b::r:=by match hq:kH t,hpl with|[],e=>simp at e;omega|[a],e=>simp at e;omega|a::b::r,_=>exact⟨a,b,r,rfl⟩
    rw[hr,show 32*k=(32*k-2)+2by omega];rfl
   unfold px;rw[hn];by_cases h1:8192<t.length\/((kH t).take (32*k)).length<6+t.length;.rw[if_pos h1]
   .rw[if_neg h1];have he:(((kH t).take (32*k)).drop 6).take t.length=t:=by rw[List.drop_take,List.take_take,show min t.length (32*k-6)=t.length by omega];exact Fv t
    rw[he,if_pos];intro e;have:=congrArg Wy e;rw[hql,hpl]at this;omega
 .rfl
theorem SV(l:List UInt8)(w:World)(hs:l.length<=8192):Calls Tryz.prog 110 #[.string (fJ l)] w λe w'=>∃v,e=.returned (.tuple #[v,.int .i64 0])/\w'.ownsRow w.heap.size 9 1 v (fq l).length (strs (fq l))/\Below w.heap.size w w':=SU l w hs
end Go.Proofs.YtabnemidjklolaaGreatDoor
