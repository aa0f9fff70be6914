/- frame: the document's functions,and that they answer as the program's. -/
import Derived.Test.YtabnemidjklolaaGreatDoorUnpack
open List renaming length_cons→YH,append_nil→YX,eq_nil_of_length_eq_zero→YY,replicate→Yc,take_of_length_le→Yk,drop_eq_nil_of_le→WO,all_eq_true→WR,length_pos_iff→Wc,take_append_of_le_length→Wm,drop_append_of_le_length→QD,replicate_succ→QR,take_append_drop→Qk,reverse→YR2
namespace Go.Proofs.YtabnemidjklolaaGreatDoor
open Go.RowKit Go.Wd
/-!### Plain -/
/-- A text's frame,filled up. -/
def lD (l:List UInt8):List UInt8:=eX l ++ Yc (32*((l.length+37)/32)-6-l.length) 0
theorem kU(l:List UInt8):(eX l).length=l.length+6:=by simp[eX,rh,nZ];omega
theorem qS(l:List UInt8):(lD l).length=32*((l.length+37)/32):=by unfold lD;rw[List.length_append,kU,List.length_replicate];omega
theorem CG(k:Nat):∀(l:List UInt8)(m:Nat),l.length<=k->l.length+m=32*((l.length+31)/32)->chunks (l++Yc m 0)=chunks l:=by induction k with
 |zero=>
  intro l m h hm;obtain rfl:l=[]:=YY (by omega);obtain rfl:m=0:=by simp at hm;omega
  rfl|succ k ih=>
  intro l m h hm;by_cases h0:l=[]
  .subst h0;obtain rfl:m=0:=by simp at hm;omega
   rfl
  .have hpos:0<l.length:=Wc.2 h0;rw[ij (by simp[h0]),ij h0];by_cases h32:32<=l.length
   .have e1:ik (l++Yc m 0)=ik l:=by unfold ik;rw[Wm h32,WO (by simp;omega),WO (by simp;omega)]
    rw[e1,QD h32,ih (l.drop 32) m (by simp;omega) (by simp;omega)]
   .have hm':m=32-l.length:=by omega
    have e1:ik (l++Yc m 0)=ik l:=by unfold ik;rw[Yk (by simp;omega),WO (by simp;omega),YX,Yk (by omega:l.length<=32),List.drop_replicate,hm']
    rw[e1,WO (by simp;omega),WO (by omega:l.length<=32)]
theorem Fx(l:List UInt8):chunks (lD l)=chunks (eX l):=by unfold lD;exact CG _ (eX l) _ (Nat.le_refl _) (by rw[kU];omega)
theorem Fw(k:Nat):∀(l:List UInt8),l.length<=k->l.length%32=0->(chunks l).flatten=l:=by induction k with|zero=>intro l h _;obtain rfl:l=[]:=YY (by omega);rfl|succ k ih=>
  intro l h hm;by_cases h0:l=[];.subst h0;rfl
  .have hpos:0<l.length:=Wc.2 h0;rw[ij h0,List.flatten_cons,ih (l.drop 32) (by simp;omega) (by simp;omega)];unfold ik;rw[WO (by simp;omega),YX,Qk]
/-- Bytes,read as a text,as the document says. -/
def qo (all:List UInt8):Option (List UInt8):=
 if 8192<jk all\/all.length<6+jk all then none
 else if lD ((all.drop 6).take (jk all))≠all then none
 else some ((all.drop 6).take (jk all))
theorem mi{l:List UInt8}:l.dropWhile (·==0)=[]↔l=Yc l.length 0:=by induction l with|nil=>simp|cons x r ih=>
  by_cases hx:x=0;.subst hx;simp only[List.dropWhile_cons,beq_self_eq_true,if_true,YH,QR,List.cons.injEq,true_and];exact ih
  .simp[hx,QR]
theorem PZ{l:List UInt8}:Lib.trimB l 0=[]↔l=Yc l.length 0:=by
 unfold Lib.trimB Lib.trimLeftB Lib.trimRightB;rw[mi];constructor
 .intro h;have h2:(l.reverse.dropWhile (·==0))=Yc (l.reverse.dropWhile (·==0)).length 0:=by have:=congrArg YR2 h;simpa using this
  have h3:l.reverse.dropWhile (·==0)=[]:=by cases hc:l.reverse.dropWhile (·==0)with|nil=>rfl|cons x r=>rw[hc,YH,QR]at h2;have hx:x=0:=(List.cons.inj h2).1;have:=List.head_dropWhile_not (p:=λx:UInt8=>x==0) (l:=l.reverse) (by rw[hc];simp);simp[hc,hx]at this
  rw[mi]at h3;have:=congrArg YR2 h3;simpa using this
 .intro h;have h3:l.reverse.dropWhile (·==0)=[]:=by rw[mi];have:=congrArg YR2 h;simpa using this
  rw[h3];rfl
/-- Both read alike. -/
theorem K4 (xO:Nat) (all:List UInt8) (h0:all≠[]) (hl:all.length=32*xO):ma xO all=qo all:=by
 unfold ma qo
 rw [if_neg h0]
 by_cases h1:8192<jk all\/all.length<6+jk all
 .rw [if_pos h1,if_pos h1]
 .rw [if_neg h1,if_neg h1]
  generalize hn:jk all=n at *
  have ht:((all.drop 6).take n).length=n:=by simp;omega
  generalize htt:(all.drop 6).take n=t at *
  have hd:(all.drop (6+n)).length=32*xO-(6+n):=by simp;omega
  have hsplit:all=all.take (6+n) ++ all.drop (6+n):=(Qk _ _).symm
  have key:lD t=all↔((n+37)/32=xO/\Lib.trimB (all.drop (6+n)) 0=[]/\eX t=all.take (6+n)):=by
   rw [PZ,hd]
   constructor
   .intro h
    have hlen:=congrArg List.length h
    rw [qS,ht,hl]at hlen
    have hc:(n+37)/32=xO:=by omega
    refine ⟨hc,?_,?_⟩
    .have:=congrArg (List.drop (6+n)) h
     unfold lD at this
     rw [QD (by rw [kU];omega),WO (by rw [kU];omega),List.nil_append,ht,hc]at this
     rw [<- this]
     congr 1;omega
    .have:=congrArg (List.take (6+n)) h
     unfold lD at this
     rw [Wm (by rw [kU];omega),Yk (by rw [kU];omega)]at this
     exact this
   .rintro ⟨hc,hz,hw⟩
    unfold lD
    rw [hw,ht,hc]
    conv=>rhs;rw [hsplit,hz]
    congr 2;omega
  by_cases hk:lD t=all
  .obtain ⟨a,b,c⟩:=key.1 hk
   rw [if_neg (by simpa using a),if_neg (by simpa using b),if_neg (by simpa using c),if_neg (by simpa using hk)]
  .have hR:(if lD t≠all then none else some t)=none:=if_pos hk
   rw [hR]
   by_cases a:(n+37)/32=xO
   .rw [if_neg (λh=>h a)]
    by_cases b:Lib.trimB (all.drop (6+n)) 0=[]
    .rw [if_neg (λh=>h b)]
     by_cases c:eX t=all.take (6+n)
     .exact absurd (key.2 ⟨a,b,c⟩) hk
     .rw [if_pos c]
    .rw [if_pos b]
   .rw [if_pos a]
/-- Sectors,read as a text,as the document says. -/
def nC (ls:List (List UInt8)):Option (List UInt8):=
 if (ls.take 301).all (λs=>s.length == 32)=true then
  if ls.flatten=[]\/300<ls.length then none else qo ls.flatten
 else none
theorem Cg(ls:List (List UInt8)):dy ls=nC ls:=by
 unfold dy nC;by_cases h:ls.all (λs=>s.length==32)=true
 .have hall:∀x∈ls,x.length=32:=by intro x hx;rw[WR]at h;simpa using h x hx
  have hl:=JW ls hall;have ht:(ls.take 301).all (λs=>s.length==32)=true:=by rw[WR]at h⊢;exactλx hx=>h x (List.mem_of_mem_take hx)
  rw[if_pos h,if_pos ht];by_cases h0:ls.flatten=[];.rw[if_pos (.inl h0)];unfold ma;rw[if_pos h0]
  .by_cases h3:300<ls.length
   .rw[if_pos (.inr h3)];unfold ma;rw[if_neg h0];split;.rfl
    .rename_i hx;rw[if_pos (by omega)]
   .rw[if_neg (by intro h;exact h.elim h0 h3)];exact K4 _ _ h0 hl
 .rw[if_neg h];split
  .rename_i ht;split;.rfl
   .rename_i hx;exfalso;apply h;rw[Yk (by omega)]at ht;exact ht
  .rfl
end Go.Proofs.YtabnemidjklolaaGreatDoor
