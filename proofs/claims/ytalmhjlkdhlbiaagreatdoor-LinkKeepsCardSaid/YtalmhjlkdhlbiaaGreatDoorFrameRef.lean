/- frame: the document's functions,and that they answer as the program's. -/
import Derived.Test.YtalmhjlkdhlbiaaGreatDoorUnpack
open List renaming length_cons → YF,eq_nil_of_length_eq_zero → YR,append_nil → YV,take_of_length_le → Ya,replicate → Yg,drop_eq_nil_of_le → WK,all_eq_true → WL,length_pos_iff → WX,replicate_succ → Qc,take_append_of_le_length → Qj,drop_append_of_le_length → Qk,take_append_drop → Qo,reverse → YN1
namespace Go.Proofs.YtalmhjlkdhlbiaaGreatDoor
open Go.RowKit Go.Wd
/-! ### Plain -/
/-- A text's frame,filled up. -/
def kq (l:List UInt8):List UInt8:=eE l ++ Yg (32*((l.length+37)/32)-6-l.length) 0
theorem jJ (l:List UInt8):(eE l).length=l.length+6:=by simp [eE,qc,mN];omega
theorem pR (l:List UInt8):(kq l).length=32*((l.length+37)/32):=by
 unfold kq;rw [List.length_append,jJ,List.length_replicate];omega
theorem Av (k:Nat):∀ (l:List UInt8) (m:Nat),l.length<=k->l.length+m=32*((l.length+31)/32)->chunks (l ++ Yg m 0)=chunks l:=by
 induction k with
 | zero=>
  intro l m h hm
  obtain rfl:l=[]:=YR (by omega)
  obtain rfl:m=0:=by simp at hm;omega
  rfl
 | succ k ih=>
  intro l m h hm
  by_cases h0:l=[]
  .subst h0
   obtain rfl:m=0:=by simp at hm;omega
   rfl
  .have hpos:0<l.length:=WX.2 h0
   rw [fV (by simp [h0]),fV h0]
   by_cases h32:32<=l.length
   .have e1:fZ (l ++ Yg m 0)=fZ l:=by
     unfold fZ
     rw [Qj h32,WK (by simp;omega),WK (by simp;omega)]
    rw [e1,Qk h32,ih (l.drop 32) m (by simp;omega) (by simp;omega)]
   .have hm':m=32-l.length:=by omega
    have e1:fZ (l ++ Yg m 0)=fZ l:=by
     unfold fZ
     rw [Ya (by simp;omega),WK (by simp;omega),YV,Ya (by omega:l.length<=32),List.drop_replicate,hm']
    rw [e1,WK (by simp;omega),WK (by omega:l.length<=32)]
theorem CT (l:List UInt8):chunks (kq l)=chunks (eE l):=by
 unfold kq
 exact Av _ (eE l) _ (Nat.le_refl _) (by rw [jJ];omega)
theorem CR (k:Nat):∀ (l:List UInt8),l.length<=k->l.length%32=0->(chunks l).flatten=l:=by
 induction k with
 | zero=>intro l h _;obtain rfl:l=[]:=YR (by omega);rfl
 | succ k ih=>
  intro l h hm
  by_cases h0:l=[]
  .subst h0;rfl
  .have hpos:0<l.length:=WX.2 h0
   rw [fV h0,List.flatten_cons,ih (l.drop 32) (by simp;omega) (by simp;omega)]
   unfold fZ
   rw [WK (by simp;omega),YV,Qo]
/-- Bytes,read as a text,as the document says. -/
def pg (all:List UInt8):Option (List UInt8):=
 if 8192<iF all\/all.length<6+iF all then none
 else if kq ((all.drop 6).take (iF all))≠all then none
 else some ((all.drop 6).take (iF all))
theorem lC {l:List UInt8}:l.dropWhile (· == 0)=[]↔l=Yg l.length 0:=by
 induction l with
 | nil=>simp
 | cons x r ih=>
  by_cases hx:x=0
  .subst hx
   simp only [List.dropWhile_cons,beq_self_eq_true,if_true,YF,Qc,List.cons.injEq,true_and]
   exact ih
  .simp [hx,Qc]
theorem Lv {l:List UInt8}:Lib.trimB l 0=[]↔l=Yg l.length 0:=by
 unfold Lib.trimB Lib.trimLeftB Lib.trimRightB
 rw [lC]
 constructor
 .intro h
  have h2:(l.reverse.dropWhile (· == 0))=Yg (l.reverse.dropWhile (· == 0)).length 0:=by
   have:=congrArg YN1 h
   simpa using this
  have h3:l.reverse.dropWhile (· == 0)=[]:=by
   cases hc:l.reverse.dropWhile (· == 0) with
   | nil=>rfl
   | cons x r=>
    rw [hc,YF,Qc]at h2
    have hx:x=0:=(List.cons.inj h2).1
    have:=List.head_dropWhile_not (p:=λx:UInt8=>x == 0) (l:=l.reverse) (by rw [hc];simp)
    simp [hc,hx]at this
  rw [lC]at h3
  have:=congrArg YN1 h3
  simpa using this
 .intro h
  have h3:l.reverse.dropWhile (· == 0)=[]:=by
   rw [lC]
   have:=congrArg YN1 h
   simpa using this
  rw [h3];rfl
/-- acP read alike. -/
theorem Ix (vR:Nat) (all:List UInt8) (h0:all≠[]) (hl:all.length=32*vR):lq vR all=pg all:=by
 unfold lq pg
 rw [if_neg h0]
 by_cases h1:8192<iF all\/all.length<6+iF all
 .rw [if_pos h1,if_pos h1]
 .rw [if_neg h1,if_neg h1]
  generalize hn:iF all=n at *
  have ht:((all.drop 6).take n).length=n:=by simp;omega
  generalize htt:(all.drop 6).take n=t at *
  have hd:(all.drop (6+n)).length=32*vR-(6+n):=by simp;omega
  have hsplit:all=all.take (6+n) ++ all.drop (6+n):=(Qo _ _).symm
  have key:kq t=all↔((n+37)/32=vR/\Lib.trimB (all.drop (6+n)) 0=[]/\eE t=all.take (6+n)):=by
   rw [Lv,hd]
   constructor
   .intro h
    have hlen:=congrArg List.length h
    rw [pR,ht,hl]at hlen
    have hc:(n+37)/32=vR:=by omega
    refine ⟨hc,?_,?_⟩
    .have:=congrArg (List.drop (6+n)) h
     unfold kq at this
     rw [Qk (by rw [jJ];omega),WK (by rw [jJ];omega),List.nil_append,ht,hc]at this
     rw [<- this]
     congr 1;omega
    .have:=congrArg (List.take (6+n)) h
     unfold kq at this
     rw [Qj (by rw [jJ];omega),Ya (by rw [jJ];omega)]at this
     exact this
   .rintro ⟨hc,hz,hw⟩
    unfold kq
    rw [hw,ht,hc]
    conv=>rhs;rw [hsplit,hz]
    congr 2;omega
  by_cases hk:kq t=all
  .obtain ⟨a,b,c⟩:=key.1 hk
   rw [if_neg (by simpa using a),if_neg (by simpa using b),if_neg (by simpa using c),if_neg (by simpa using hk)]
  .have hR:(if kq t≠all then none else some t)=none:=if_pos hk
   rw [hR]
   by_cases a:(n+37)/32=vR
   .rw [if_neg (λh=>h a)]
    by_cases b:Lib.trimB (all.drop (6+n)) 0=[]
    .rw [if_neg (λh=>h b)]
     by_cases c:eE t=all.take (6+n)
     .exact absurd (key.2 ⟨a,b,c⟩) hk
     .rw [if_pos c]
    .rw [if_pos b]
   .rw [if_pos a]
/-- Sectors,read as a text,as the document says. -/
def mg (ls:List (List UInt8)):Option (List UInt8):=
 if (ls.take 301).all (λs=>s.length == 32)=true then
  if ls.flatten=[]\/300<ls.length then none else pg ls.flatten
 else none
theorem zO (ls:List (List UInt8)):de ls=mg ls:=by
 unfold de mg
 by_cases h:ls.all (λs=>s.length == 32)=true
 .have hall:∀ x ∈ ls,x.length=32:=by
   intro x hx
   rw [WL]at h
   simpa using h x hx
  have hl:=GH ls hall
  have ht:(ls.take 301).all (λs=>s.length == 32)=true:=by
   rw [WL]at h ⊢
   exact λx hx=>h x (List.mem_of_mem_take hx)
  rw [if_pos h,if_pos ht]
  by_cases h0:ls.flatten=[]
  .rw [if_pos (.inl h0)];unfold lq;rw [if_pos h0]
  .by_cases h3:300<ls.length
   .rw [if_pos (.inr h3)]
    unfold lq
    rw [if_neg h0]
    split
    .rfl
    .rename_i hx
     rw [if_pos (by omega)]
   .rw [if_neg (by intro h;exact h.elim h0 h3)]
    exact Ix _ _ h0 hl
 .rw [if_neg h]
  split
  .rename_i ht
   split
   .rfl
   .rename_i hx
    exfalso
    apply h
    rw [Ya (by omega)]at ht
    exact ht
  .rfl
end Go.Proofs.YtalmhjlkdhlbiaaGreatDoor
