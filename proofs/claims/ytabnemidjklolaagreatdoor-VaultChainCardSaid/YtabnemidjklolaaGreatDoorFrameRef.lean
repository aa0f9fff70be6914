/- frame: the document's functions,and that they answer as the program's. -/
import Derived.Test.YtabnemidjklolaaGreatDoorUnpack
open List renaming length_cons→YG,append_nil→YV,eq_nil_of_length_eq_zero→YW,replicate→YZ,take_of_length_le→Yh,all_eq_true→WJ,drop_eq_nil_of_le→WR,length_pos_iff→Wa,take_append_of_le_length→Wk,drop_append_of_le_length→Wz,replicate_succ→QP,take_append_drop→Qi,reverse→YR1
namespace Go.Proofs.YtabnemidjklolaaGreatDoor
open Go.RowKit Go.Wd
/-!### Plain -/
/-- A text's frame,filled up. -/
def kH (l:List UInt8):List UInt8:=eB l ++ YZ (32*((l.length+37)/32)-6-l.length) 0
theorem j8(l:List UInt8):(eB l).length=l.length+6:=by simp[eB,qi,mT];omega
theorem pZ(l:List UInt8):(kH l).length=32*((l.length+37)/32):=by unfold kH;rw[List.length_append,j8,List.length_replicate];omega
theorem Bj(k:Nat):∀(l:List UInt8)(m:Nat),l.length<=k->l.length+m=32*((l.length+31)/32)->chunks (l++YZ m 0)=chunks l:=by induction k with
 |zero=>
  intro l m h hm;obtain rfl:l=[]:=YW (by omega);obtain rfl:m=0:=by simp at hm;omega
  rfl|succ k ih=>
  intro l m h hm;by_cases h0:l=[]
  .subst h0;obtain rfl:m=0:=by simp at hm;omega
   rfl
  .have hpos:0<l.length:=Wa.2 h0;rw[gD (by simp[h0]),gD h0];by_cases h32:32<=l.length
   .have e1:gE (l++YZ m 0)=gE l:=by unfold gE;rw[Wk h32,WR (by simp;omega),WR (by simp;omega)]
    rw[e1,Wz h32,ih (l.drop 32) m (by simp;omega) (by simp;omega)]
   .have hm':m=32-l.length:=by omega
    have e1:gE (l++YZ m 0)=gE l:=by unfold gE;rw[Yh (by simp;omega),WR (by simp;omega),YV,Yh (by omega:l.length<=32),List.drop_replicate,hm']
    rw[e1,WR (by simp;omega),WR (by omega:l.length<=32)]
theorem DP(l:List UInt8):chunks (kH l)=chunks (eB l):=by unfold kH;exact Bj _ (eB l) _ (Nat.le_refl _) (by rw[j8];omega)
theorem DO(k:Nat):∀(l:List UInt8),l.length<=k->l.length%32=0->(chunks l).flatten=l:=by induction k with|zero=>intro l h _;obtain rfl:l=[]:=YW (by omega);rfl|succ k ih=>
  intro l h hm;by_cases h0:l=[];.subst h0;rfl
  .have hpos:0<l.length:=Wa.2 h0;rw[gD h0,List.flatten_cons,ih (l.drop 32) (by simp;omega) (by simp;omega)];unfold gE;rw[WR (by simp;omega),YV,Qi]
/-- Bytes,read as a text,as the document says. -/
def px (all:List UInt8):Option (List UInt8):=
 if 8192<iL all\/all.length<6+iL all then none
 else if kH ((all.drop 6).take (iL all))≠all then none
 else some ((all.drop 6).take (iL all))
theorem lF{l:List UInt8}:l.dropWhile (·==0)=[]↔l=YZ l.length 0:=by induction l with|nil=>simp|cons x r ih=>
  by_cases hx:x=0;.subst hx;simp only[List.dropWhile_cons,beq_self_eq_true,if_true,YG,QP,List.cons.injEq,true_and];exact ih
  .simp[hx,QP]
theorem Oe{l:List UInt8}:Lib.trimB l 0=[]↔l=YZ l.length 0:=by
 unfold Lib.trimB Lib.trimLeftB Lib.trimRightB;rw[lF];constructor
 .intro h;have h2:(l.reverse.dropWhile (·==0))=YZ (l.reverse.dropWhile (·==0)).length 0:=by have:=congrArg YR1 h;simpa using this
  have h3:l.reverse.dropWhile (·==0)=[]:=by cases hc:l.reverse.dropWhile (·==0)with|nil=>rfl|cons x r=>rw[hc,YG,QP]at h2;have hx:x=0:=(List.cons.inj h2).1;have:=List.head_dropWhile_not (p:=λx:UInt8=>x==0) (l:=l.reverse) (by rw[hc];simp);simp[hc,hx]at this
  rw[lF]at h3;have:=congrArg YR1 h3;simpa using this
 .intro h;have h3:l.reverse.dropWhile (·==0)=[]:=by rw[lF];have:=congrArg YR1 h;simpa using this
  rw[h3];rfl
/-- Both read alike. -/
theorem JA (wC:Nat) (all:List UInt8) (h0:all≠[]) (hl:all.length=32*wC):ly wC all=px all:=by
 unfold ly px
 rw [if_neg h0]
 by_cases h1:8192<iL all\/all.length<6+iL all
 .rw [if_pos h1,if_pos h1]
 .rw [if_neg h1,if_neg h1]
  generalize hn:iL all=n at *
  have ht:((all.drop 6).take n).length=n:=by simp;omega
  generalize htt:(all.drop 6).take n=t at *
  have hd:(all.drop (6+n)).length=32*wC-(6+n):=by simp;omega
  have hsplit:all=all.take (6+n) ++ all.drop (6+n):=(Qi _ _).symm
  have key:kH t=all↔((n+37)/32=wC/\Lib.trimB (all.drop (6+n)) 0=[]/\eB t=all.take (6+n)):=by
   rw [Oe,hd]
   constructor
   .intro h
    have hlen:=congrArg List.length h
    rw [pZ,ht,hl]at hlen
    have hc:(n+37)/32=wC:=by omega
    refine ⟨hc,?_,?_⟩
    .have:=congrArg (List.drop (6+n)) h
     unfold kH at this
     rw [Wz (by rw [j8];omega),WR (by rw [j8];omega),List.nil_append,ht,hc]at this
     rw [<- this]
     congr 1;omega
    .have:=congrArg (List.take (6+n)) h
     unfold kH at this
     rw [Wk (by rw [j8];omega),Yh (by rw [j8];omega)]at this
     exact this
   .rintro ⟨hc,hz,hw⟩
    unfold kH
    rw [hw,ht,hc]
    conv=>rhs;rw [hsplit,hz]
    congr 2;omega
  by_cases hk:kH t=all
  .obtain ⟨a,b,c⟩:=key.1 hk
   rw [if_neg (by simpa using a),if_neg (by simpa using b),if_neg (by simpa using c),if_neg (by simpa using hk)]
  .have hR:(if kH t≠all then none else some t)=none:=if_pos hk
   rw [hR]
   by_cases a:(n+37)/32=wC
   .rw [if_neg (λh=>h a)]
    by_cases b:Lib.trimB (all.drop (6+n)) 0=[]
    .rw [if_neg (λh=>h b)]
     by_cases c:eB t=all.take (6+n)
     .exact absurd (key.2 ⟨a,b,c⟩) hk
     .rw [if_pos c]
    .rw [if_pos b]
   .rw [if_pos a]
/-- Sectors,read as a text,as the document says. -/
def mv (ls:List (List UInt8)):Option (List UInt8):=
 if (ls.take 301).all (λs=>s.length == 32)=true then
  if ls.flatten=[]\/300<ls.length then none else px ls.flatten
 else none
theorem AU(ls:List (List UInt8)):cT ls=mv ls:=by
 unfold cT mv;by_cases h:ls.all (λs=>s.length==32)=true
 .have hall:∀x∈ls,x.length=32:=by intro x hx;rw[WJ]at h;simpa using h x hx
  have hl:=Ip ls hall;have ht:(ls.take 301).all (λs=>s.length==32)=true:=by rw[WJ]at h⊢;exactλx hx=>h x (List.mem_of_mem_take hx)
  rw[if_pos h,if_pos ht];by_cases h0:ls.flatten=[];.rw[if_pos (.inl h0)];unfold ly;rw[if_pos h0]
  .by_cases h3:300<ls.length
   .rw[if_pos (.inr h3)];unfold ly;rw[if_neg h0];split;.rfl
    .rename_i hx;rw[if_pos (by omega)]
   .rw[if_neg (by intro h;exact h.elim h0 h3)];exact JA _ _ h0 hl
 .rw[if_neg h];split
  .rename_i ht;split;.rfl
   .rename_i hx;exfalso;apply h;rw[Yh (by omega)]at ht;exact ht
  .rfl
end Go.Proofs.YtabnemidjklolaaGreatDoor
