/- frame: the document's functions,and that they answer as the program's. -/
import Derived.Test.YtnndgkcpacpleaaGreatDoorUnpack
open List renaming length_cons → YH,eq_nil_of_length_eq_zero → YQ,append_nil → YR,take_of_length_le → YV,replicate → YZ,drop_eq_nil_of_le → WQ,all_eq_true → WR,length_pos_iff → WW,drop_append_of_le_length → Wx,take_append_of_le_length → Wy,replicate_succ → QJ,take_append_drop → QN,reverse → YO2
namespace Go.Proofs.YtnndgkcpacpleaaGreatDoor
open Go.RowKit Go.Wd
/-! ### Plain -/
/-- A text's frame,filled up. -/
def kR (l:List UInt8):List UInt8:=eQ l ++ YZ (32*((l.length+37)/32)-6-l.length) 0
theorem ko (l:List UInt8):(eQ l).length=l.length+6:=by simp [eQ,qF,nC];omega
theorem qu (l:List UInt8):(kR l).length=32*((l.length+37)/32):=by
 unfold kR;rw [List.length_append,ko,List.length_replicate];omega
theorem BO (k:Nat):∀ (l:List UInt8) (m:Nat),l.length<=k->l.length+m=32*((l.length+31)/32)->chunks (l ++ YZ m 0)=chunks l:=by
 induction k with
 | zero=>
  intro l m h hm
  obtain rfl:l=[]:=YQ (by omega)
  obtain rfl:m=0:=by simp at hm;omega
  rfl
 | succ k ih=>
  intro l m h hm
  by_cases h0:l=[]
  .subst h0
   obtain rfl:m=0:=by simp at hm;omega
   rfl
  .have hpos:0<l.length:=WW.2 h0
   rw [gG (by simp [h0]),gG h0]
   by_cases h32:32<=l.length
   .have e1:gJ (l ++ YZ m 0)=gJ l:=by
     unfold gJ
     rw [Wy h32,WQ (by simp;omega),WQ (by simp;omega)]
    rw [e1,Wx h32,ih (l.drop 32) m (by simp;omega) (by simp;omega)]
   .have hm':m=32-l.length:=by omega
    have e1:gJ (l ++ YZ m 0)=gJ l:=by
     unfold gJ
     rw [YV (by simp;omega),WQ (by simp;omega),YR,YV (by omega:l.length<=32),List.drop_replicate,hm']
    rw [e1,WQ (by simp;omega),WQ (by omega:l.length<=32)]
theorem EI (l:List UInt8):chunks (kR l)=chunks (eQ l):=by
 unfold kR
 exact BO _ (eQ l) _ (Nat.le_refl _) (by rw [ko];omega)
theorem EH (k:Nat):∀ (l:List UInt8),l.length<=k->l.length%32=0->(chunks l).flatten=l:=by
 induction k with
 | zero=>intro l h _;obtain rfl:l=[]:=YQ (by omega);rfl
 | succ k ih=>
  intro l h hm
  by_cases h0:l=[]
  .subst h0;rfl
  .have hpos:0<l.length:=WW.2 h0
   rw [gG h0,List.flatten_cons,ih (l.drop 32) (by simp;omega) (by simp;omega)]
   unfold gJ
   rw [WQ (by simp;omega),YR,QN]
/-- Bytes,read as a text,as the document says. -/
def pR (all:List UInt8):Option (List UInt8):=
 if 8192<iO all\/all.length<6+iO all then none
 else if kR ((all.drop 6).take (iO all))≠all then none
 else some ((all.drop 6).take (iO all))
theorem lQ {l:List UInt8}:l.dropWhile (· == 0)=[]↔l=YZ l.length 0:=by
 induction l with
 | nil=>simp
 | cons x r ih=>
  by_cases hx:x=0
  .subst hx
   simp only [List.dropWhile_cons,beq_self_eq_true,if_true,YH,QJ,List.cons.injEq,true_and]
   exact ih
  .simp [hx,QJ]
theorem OD {l:List UInt8}:Lib.trimB l 0=[]↔l=YZ l.length 0:=by
 unfold Lib.trimB Lib.trimLeftB Lib.trimRightB
 rw [lQ]
 constructor
 .intro h
  have h2:(l.reverse.dropWhile (· == 0))=YZ (l.reverse.dropWhile (· == 0)).length 0:=by
   have:=congrArg YO2 h
   simpa using this
  have h3:l.reverse.dropWhile (· == 0)=[]:=by
   cases hc:l.reverse.dropWhile (· == 0) with
   | nil=>rfl
   | cons x r=>
    rw [hc,YH,QJ]at h2
    have hx:x=0:=(List.cons.inj h2).1
    have:=List.head_dropWhile_not (p:=λx:UInt8=>x == 0) (l:=l.reverse) (by rw [hc];simp)
    simp [hc,hx]at this
  rw [lQ]at h3
  have:=congrArg YO2 h3
  simpa using this
 .intro h
  have h3:l.reverse.dropWhile (· == 0)=[]:=by
   rw [lQ]
   have:=congrArg YO2 h
   simpa using this
  rw [h3];rfl
/-- afr read alike. -/
theorem Lf (wW:Nat) (all:List UInt8) (h0:all≠[]) (hl:all.length=32*wW):lI wW all=pR all:=by
 unfold lI pR
 rw [if_neg h0]
 by_cases h1:8192<iO all\/all.length<6+iO all
 .rw [if_pos h1,if_pos h1]
 .rw [if_neg h1,if_neg h1]
  generalize hn:iO all=n at *
  have ht:((all.drop 6).take n).length=n:=by simp;omega
  generalize htt:(all.drop 6).take n=t at *
  have hd:(all.drop (6+n)).length=32*wW-(6+n):=by simp;omega
  have hsplit:all=all.take (6+n) ++ all.drop (6+n):=(QN _ _).symm
  have key:kR t=all↔((n+37)/32=wW/\Lib.trimB (all.drop (6+n)) 0=[]/\eQ t=all.take (6+n)):=by
   rw [OD,hd]
   constructor
   .intro h
    have hlen:=congrArg List.length h
    rw [qu,ht,hl]at hlen
    have hc:(n+37)/32=wW:=by omega
    refine ⟨hc,?_,?_⟩
    .have:=congrArg (List.drop (6+n)) h
     unfold kR at this
     rw [Wx (by rw [ko];omega),WQ (by rw [ko];omega),List.nil_append,ht,hc]at this
     rw [<- this]
     congr 1;omega
    .have:=congrArg (List.take (6+n)) h
     unfold kR at this
     rw [Wy (by rw [ko];omega),YV (by rw [ko];omega)]at this
     exact this
   .rintro ⟨hc,hz,hw⟩
    unfold kR
    rw [hw,ht,hc]
    conv=>rhs;rw [hsplit,hz]
    congr 2;omega
  by_cases hk:kR t=all
  .obtain ⟨a,b,c⟩:=key.1 hk
   rw [if_neg (by simpa using a),if_neg (by simpa using b),if_neg (by simpa using c),if_neg (by simpa using hk)]
  .have hR:(if kR t≠all then none else some t)=none:=if_pos hk
   rw [hR]
   by_cases a:(n+37)/32=wW
   .rw [if_neg (λh=>h a)]
    by_cases b:Lib.trimB (all.drop (6+n)) 0=[]
    .rw [if_neg (λh=>h b)]
     by_cases c:eQ t=all.take (6+n)
     .exact absurd (key.2 ⟨a,b,c⟩) hk
     .rw [if_pos c]
    .rw [if_pos b]
   .rw [if_pos a]
/-- Sectors,read as a text,as the document says. -/
def mM (ls:List (List UInt8)):Option (List UInt8):=
 if (ls.take 301).all (λs=>s.length == 32)=true then
  if ls.flatten=[]\/300<ls.length then none else pR ls.flatten
 else none
theorem Bh (ls:List (List UInt8)):df ls=mM ls:=by
 unfold df mM
 by_cases h:ls.all (λs=>s.length == 32)=true
 .have hall:∀ x ∈ ls,x.length=32:=by
   intro x hx
   rw [WR]at h
   simpa using h x hx
  have hl:=JQ ls hall
  have ht:(ls.take 301).all (λs=>s.length == 32)=true:=by
   rw [WR]at h ⊢
   exact λx hx=>h x (List.mem_of_mem_take hx)
  rw [if_pos h,if_pos ht]
  by_cases h0:ls.flatten=[]
  .rw [if_pos (.inl h0)];unfold lI;rw [if_pos h0]
  .by_cases h3:300<ls.length
   .rw [if_pos (.inr h3)]
    unfold lI
    rw [if_neg h0]
    split
    .rfl
    .rename_i hx
     rw [if_pos (by omega)]
   .rw [if_neg (by intro h;exact h.elim h0 h3)]
    exact Lf _ _ h0 hl
 .rw [if_neg h]
  split
  .rename_i ht
   split
   .rfl
   .rename_i hx
    exfalso
    apply h
    rw [YV (by omega)]at ht
    exact ht
  .rfl
end Go.Proofs.YtnndgkcpacpleaaGreatDoor
