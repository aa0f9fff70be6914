/- frame: the document's functions,and that they answer as the program's. -/
import Derived.Test.YtalmhjlkdhlbiaaGreatDoorUnpack
open List renaming length_cons → YF,eq_nil_of_length_eq_zero → YR,append_nil → YW,replicate → YZ,take_of_length_le → Yc,drop_eq_nil_of_le → WK,all_eq_true → WL,length_pos_iff → WR,replicate_succ → QK,take_append_drop → QS,drop_append_of_le_length → Qf,take_append_of_le_length → Qg,reverse → YN0
set_option linter.unusedVariables false
set_option linter.unusedSimpArgs false
set_option linter.unusedSectionVars false
namespace Go.Proofs.YtalmhjlkdhlbiaaGreatDoor
open Go.RowKit Go.Wd
/-! ### Plain -/
/-- A text's frame,filled up. -/
def kh (l:List UInt8):List UInt8:=eC l ++ YZ (32*((l.length+37)/32)-6-l.length) 0
theorem jH (l:List UInt8):(eC l).length=l.length+6:=by simp [eC,pS,mE];omega
theorem pI (l:List UInt8):(kh l).length=32*((l.length+37)/32):=by
 unfold kh;rw [List.length_append,jH,List.length_replicate];omega
theorem Ar (k:Nat):∀ (l:List UInt8) (m:Nat),l.length<=k->l.length+m=32*((l.length+31)/32)->chunks (l ++ YZ m 0)=chunks l:=by
 induction k with
 | zero=>
  intro l m h hm
  obtain rfl:l=[]:=YR (by omega)
  obtain rfl:m=0:=by simp at hm;omega
  rfl
 | succ k ih=>
  intro l m h hm
  by_cases h0:l=[]
  .subst h0
   obtain rfl:m=0:=by simp at hm;omega
   rfl
  .have hpos:0<l.length:=WR.2 h0
   rw [fZ (by simp [h0]),fZ h0]
   by_cases h32:32<=l.length
   .have e1:gh (l ++ YZ m 0)=gh l:=by
     unfold gh
     rw [Qg h32,WK (by simp;omega),WK (by simp;omega)]
    rw [e1,Qf h32,ih (l.drop 32) m (by simp;omega) (by simp;omega)]
   .have hm':m=32-l.length:=by omega
    have e1:gh (l ++ YZ m 0)=gh l:=by
     unfold gh
     rw [Yc (by simp;omega),WK (by simp;omega),YW,Yc (by omega:l.length<=32),List.drop_replicate,hm']
    rw [e1,WK (by simp;omega),WK (by omega:l.length<=32)]
theorem CG (l:List UInt8):chunks (kh l)=chunks (eC l):=by
 unfold kh
 exact Ar _ (eC l) _ (Nat.le_refl _) (by rw [jH];omega)
theorem CE (k:Nat):∀ (l:List UInt8),l.length<=k->l.length%32=0->(chunks l).flatten=l:=by
 induction k with
 | zero=>intro l h _;obtain rfl:l=[]:=YR (by omega);rfl
 | succ k ih=>
  intro l h hm
  by_cases h0:l=[]
  .subst h0;rfl
  .have hpos:0<l.length:=WR.2 h0
   rw [fZ h0,List.flatten_cons,ih (l.drop 32) (by simp;omega) (by simp;omega)]
   unfold gh
   rw [WK (by simp;omega),YW,QS]
/-- Bytes,read as a text,as the document says. -/
def oO (all:List UInt8):Option (List UInt8):=
 if 8192<iE all\/all.length<6+iE all then none
 else if kh ((all.drop 6).take (iE all))≠all then none
 else some ((all.drop 6).take (iE all))
theorem lk {l:List UInt8}:l.dropWhile (· == 0)=[]↔l=YZ l.length 0:=by
 induction l with
 | nil=>simp
 | cons x r ih=>
  by_cases hx:x=0
  .subst hx
   simp only [List.dropWhile_cons,beq_self_eq_true,if_true,YF,QK,List.cons.injEq,true_and]
   exact ih
  .simp [hx,QK]
theorem K9 {l:List UInt8}:Lib.trimB l 0=[]↔l=YZ l.length 0:=by
 unfold Lib.trimB Lib.trimLeftB Lib.trimRightB
 rw [lk]
 constructor
 .intro h
  have h2:(l.reverse.dropWhile (· == 0))=YZ (l.reverse.dropWhile (· == 0)).length 0:=by
   have:=congrArg YN0 h
   simpa using this
  have h3:l.reverse.dropWhile (· == 0)=[]:=by
   cases hc:l.reverse.dropWhile (· == 0) with
   | nil=>rfl
   | cons x r=>
    rw [hc,YF,QK]at h2
    have hx:x=0:=(List.cons.inj h2).1
    have:=List.head_dropWhile_not (p:=λx:UInt8=>x == 0) (l:=l.reverse) (by rw [hc];simp)
    simp [hc,hx]at this
  rw [lk]at h3
  have:=congrArg YN0 h3
  simpa using this
 .intro h
  have h3:l.reverse.dropWhile (· == 0)=[]:=by
   rw [lk]
   have:=congrArg YN0 h
   simpa using this
  rw [h3];rfl
/-- nH read alike. -/
theorem HP (wg:Nat) (all:List UInt8) (h0:all≠[]) (hl:all.length=32*wg):kZ wg all=oO all:=by
 unfold kZ oO
 rw [if_neg h0]
 by_cases h1:8192<iE all\/all.length<6+iE all
 .rw [if_pos h1,if_pos h1]
 .rw [if_neg h1,if_neg h1]
  generalize hn:iE all=n at *
  have ht:((all.drop 6).take n).length=n:=by simp;omega
  generalize htt:(all.drop 6).take n=t at *
  have hd:(all.drop (6+n)).length=32*wg-(6+n):=by simp;omega
  have hsplit:all=all.take (6+n) ++ all.drop (6+n):=(QS _ _).symm
  have key:kh t=all↔((n+37)/32=wg/\Lib.trimB (all.drop (6+n)) 0=[]/\eC t=all.take (6+n)):=by
   rw [K9,hd]
   constructor
   .intro h
    have hlen:=congrArg List.length h
    rw [pI,ht,hl]at hlen
    have hc:(n+37)/32=wg:=by omega
    refine ⟨hc,?_,?_⟩
    .have:=congrArg (List.drop (6+n)) h
     unfold kh at this
     rw [Qf (by rw [jH];omega),WK (by rw [jH];omega),List.nil_append,ht,hc]at this
     rw [<- this]
     congr 1;omega
    .have:=congrArg (List.take (6+n)) h
     unfold kh at this
     rw [Qg (by rw [jH];omega),Yc (by rw [jH];omega)]at this
     exact this
   .rintro ⟨hc,hz,hw⟩
    unfold kh
    rw [hw,ht,hc]
    conv=>rhs;rw [hsplit,hz]
    congr 2;omega
  by_cases hk:kh t=all
  .obtain ⟨a,b,c⟩:=key.1 hk
   rw [if_neg (by simpa using a),if_neg (by simpa using b),if_neg (by simpa using c),if_neg (by simpa using hk)]
  .have hR:(if kh t≠all then none else some t)=none:=if_pos hk
   rw [hR]
   by_cases a:(n+37)/32=wg
   .rw [if_neg (λh=>h a)]
    by_cases b:Lib.trimB (all.drop (6+n)) 0=[]
    .rw [if_neg (λh=>h b)]
     by_cases c:eC t=all.take (6+n)
     .exact absurd (key.2 ⟨a,b,c⟩) hk
     .rw [if_pos c]
    .rw [if_pos b]
   .rw [if_pos a]
/-- Sectors,read as a text,as the document says. -/
def l4 (ls:List (List UInt8)):Option (List UInt8):=
 if (ls.take 301).all (λs=>s.length == 32)=true then
  if ls.flatten=[]\/300<ls.length then none else oO ls.flatten
 else none
theorem zN (ls:List (List UInt8)):df ls=l4 ls:=by
 unfold df l4
 by_cases h:ls.all (λs=>s.length == 32)=true
 .have hall:∀ x ∈ ls,x.length=32:=by
   intro x hx
   rw [WL]at h
   simpa using h x hx
  have hl:=F9 ls hall
  have ht:(ls.take 301).all (λs=>s.length == 32)=true:=by
   rw [WL]at h ⊢
   exact λx hx=>h x (List.mem_of_mem_take hx)
  rw [if_pos h,if_pos ht]
  by_cases h0:ls.flatten=[]
  .rw [if_pos (.inl h0)];unfold kZ;rw [if_pos h0]
  .by_cases h3:300<ls.length
   .rw [if_pos (.inr h3)]
    unfold kZ
    rw [if_neg h0]
    split
    .rfl
    .rename_i hx
     rw [if_pos (by omega)]
   .rw [if_neg (by intro h;exact h.elim h0 h3)]
    exact HP _ _ h0 hl
 .rw [if_neg h]
  split
  .rename_i ht
   split
   .rfl
   .rename_i hx
    exfalso
    apply h
    rw [Yc (by omega)]at ht
    exact ht
  .rfl
end Go.Proofs.YtalmhjlkdhlbiaaGreatDoor
