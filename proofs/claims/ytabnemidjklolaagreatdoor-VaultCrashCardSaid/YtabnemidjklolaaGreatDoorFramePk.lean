/- frame: a text's sectors,and back. -/
import Derived.Test.YtabnemidjklolaaGreatDoorFrameRef
open Nat renaming le_refl→YC
open List renaming flatten_cons→WL,length→Wl
namespace Go.Proofs.YtabnemidjklolaaGreatDoor
open Go.RowKit Go.Wd
theorem CE(k:Nat):∀(l:List UInt8),l.length<=k->∀x∈chunks l,x.length=32:=by induction k with|zero=>intro l h;obtain rfl:l=[]:=List.eq_nil_of_length_eq_zero (by omega);intro x hx;simp[ld]at hx|succ k ih=>
  intro l h x hx;by_cases h0:l=[];.subst h0;simp[ld]at hx
  .have hpos:0<l.length:=List.length_pos_iff.2 h0;rw[ij h0]at hx;rcases List.mem_cons.1 hx with rfl|hx;.exact BZ l
   .exact ih _ (by simp;omega) x hx
/-- A text's sectors. -/
def gz (t:List UInt8):List (List UInt8):=chunks (eX t)
theorem od(t:List UInt8):∀x∈gz t,x.length=32:=CE _ _ (YC _)
theorem uP(t:List UInt8):(gz t).flatten=lD t:=by unfold gz;rw[<-Fx];exact Fw _ _ (YC _) (by rw[qS];omega)
theorem nA(t:List UInt8):(gz t).length=(t.length+37)/32:=by have h:=JW (gz t) (od t);rw[uP,qS]at h;omega
theorem ME(t:List UInt8)(h:t.length<65536):jk (lD t)=t.length:=by simp[jk,lD,eX,rh];omega
theorem Hv(t:List UInt8):((lD t).drop 6).take t.length=t:=by simp[lD,eX,rh,mD]
theorem Pn(t:List UInt8)(h:t.length<=8192):nC (gz t)=some t:=by
 have hl:=nA t;have hall:((gz t).take 301).all (λs=>s.length==32)=true:=by rw[List.all_eq_true];intro x hx;simpa using od t x (List.mem_of_mem_take hx)
 unfold nC;rw[if_pos hall,uP,if_neg,qo,ME t (by omega),if_neg,Hv,if_neg];.simp
 .rw[qS];omega
 .intro h';rcases h' with h'|h';.have:=congrArg Wl h';rw[qS]at this;simp at this;omega
  .omega
theorem BC:∀(k:Nat)(l:List (List UInt8)),(∀x∈l,x.length=32)->(l.take k).flatten=l.flatten.take (32*k)|0,l,_=>by simp|k+1,[],_=>by simp|k+1,x::l,h=>by have hx:=h x (List.mem_cons_self ..);rw[List.take_succ_cons,WL,WL,BC k l λy hy=>h y (List.mem_cons_of_mem _ hy),show 32*(k+1)=x.length+32*k by omega,List.take_length_add_append]
theorem KA(t:List UInt8)(k:Nat)(h:t.length<=8192)(hk:k<(gz t).length):nC ((gz t).take k)=none:=by
 have hf:=BC k (gz t) (od t);rw[uP]at hf;have hl:=nA t;have hpl:=qS t;have hql:((lD t).take (32*k)).length=32*k:=by rw[List.length_take];omega
 unfold nC;split
 .rw[hf];by_cases h0:(lD t).take (32*k)=[]\/300<((gz t).take k).length;.rw[if_pos h0]
  .rw[if_neg h0];have hk0:0<k:=by
    rcases Nat.eq_zero_or_pos k with rfl|h1;.exact absurd (Or.inl (by simp)) h0
    .exact h1
   have hn:jk ((lD t).take (32*k))=t.length:=by
    rw[<-ME t (by omega)];obtain⟨a,b,r,hr⟩:∃a b r,lD t=a::b::r:=by match hq:lD t,hpl with|[],e=>simp at e;omega|[a],e=>simp at e;omega|a::b::r,_=>exact⟨a,b,r,rfl⟩
    rw[hr,show 32*k=(32*k-2)+2by omega];rfl
   unfold qo;rw[hn];by_cases h1:8192<t.length\/((lD t).take (32*k)).length<6+t.length;.rw[if_pos h1]
   .rw[if_neg h1];have he:(((lD t).take (32*k)).drop 6).take t.length=t:=by rw[List.drop_take,List.take_take,show min t.length (32*k-6)=t.length by omega];exact Hv t
    rw[he,if_pos];intro e;have:=congrArg Wl e;rw[hql,hpl]at this;omega
 .rfl
theorem UU(l:List UInt8)(w:World)(hs:l.length<=8192):Calls Tryz.prog 110 #[.string (gh l)] w λe w'=>∃v,e=.returned (.tuple #[v,.int .i64 0])/\w'.ownsRow w.heap.size 9 1 v (gz l).length (strs (gz l))/\Below w.heap.size w w':=UT l w hs
end Go.Proofs.YtabnemidjklolaaGreatDoor
