/- LA: a part of the evaluator,of its logic,or of the laws' walk in it. -/
import Derived.Test.YtdimchccafgdoaaGreatDoorLg
import Derived.Test.YtdimchccafgdoaaGreatDoorCode
set_option linter.unusedVariables false
set_option linter.unusedSimpArgs false
set_option linter.unusedSectionVars false
section
namespace Go.Ev
theorem Heap.lo_put {H:Heap} {lo b:Nat} {x:Blk} (h1:lo≤H.wlo) (h2:lo≤b):lo≤(H.put b x).wlo:=by
 by_cases h:H.wf∧b<H.n
 ·rw [Heap.wlo_put h.1 h.2]
  split <;> assumption
 ·have e:H.put b x=H:=if_neg h
  rw [e]
  exact h1
structure Step (H:Heap) (O:Nat→Prop) (H':Heap) (O':Nat→Prop):Prop where
 wf:H'.wf
 n:H.n≤H'.n
 same:∀ b,b<H.n → ¬ O b→H'.get b=H.get b ∧ ¬ O' b
 lo:∀ lo,lo≤H.wlo→lo≤H.n→(∀ b,O b→lo≤b)→lo≤H'.wlo ∧ ∀ b,O' b→lo≤b
theorem Step.refl {H:Heap} {O:Nat→Prop} (h:H.wf):Step H O H O:=⟨h,Nat.le_refl _,fun _ _ h=>⟨rfl,h⟩,fun _ h _ h'=>⟨h,h'⟩⟩
theorem Step.trans {H H1 H2:Heap} {O O1 O2:Nat→Prop} (h:Step H O H1 O1) (g:Step H1 O1 H2 O2):Step H O H2 O2:=
 ⟨g.wf,Nat.le_trans h.n g.n,fun b hb ho=>let ⟨e,o⟩:=h.same b hb ho;let ⟨e',o'⟩:=g.same b (Nat.lt_of_lt_of_le hb h.n) o; ⟨e'.trans e,o'⟩,
  fun lo h1 h2 h3=>let ⟨e,o⟩:=h.lo lo h1 h2 h3;g.lo lo e (Nat.le_trans h2 h.n) o⟩
structure Fresh (H H':Heap):Prop where
 wf:H'.wf
 n:H.n≤H'.n
 same:∀ b,b<H.n→H'.get b=H.get b
 lo:∀ lo,lo≤H.wlo→lo≤H.n→lo≤H'.wlo
theorem Fresh.refl {H:Heap} (h:H.wf):Fresh H H:=⟨h,Nat.le_refl _,fun _ _=>rfl,fun _ h _=>h⟩
theorem Fresh.trans {H H1 H2:Heap} (h:Fresh H H1) (g:Fresh H1 H2):Fresh H H2:=
 ⟨g.wf,Nat.le_trans h.n g.n,fun b hb=>(g.same b (Nat.lt_of_lt_of_le hb h.n)).trans (h.same b hb),fun lo h1 h2=>g.lo lo (h.lo lo h1 h2) (Nat.le_trans h2 h.n)⟩
theorem Fresh.new {H:Heap} {x:Blk} (h:H.wf):Fresh H (H.new x):=
 ⟨by rw [Heap.wf_new];exact h,by rw [Heap.n_new];omega,fun b hb=>by rw [Heap.get_new h,if_neg (by omega)],fun _ h _=>h⟩
theorem Fresh.put {H H1:Heap} {b:Nat} {x:Blk} (h:Fresh H H1) (h1:H.n≤b) (h2:b<H1.n):Fresh H (H1.put b x):=
 ⟨by rw [Heap.wf_put];exact h.wf,by rw [Heap.n_put];exact h.n,fun j hj=>by rw [Heap.get_put h.wf h2,if_neg (by omega)];exact h.same j hj,fun lo h3 h4=>Heap.lo_put (h.lo lo h3 h4) (by omega)⟩
theorem Fresh.step {H H':Heap} {O:Nat→Prop} (h:Fresh H H'):Step H O H' O:=⟨h.wf,h.n,fun b hb ho=>⟨h.same b hb,ho⟩,fun lo h1 h2 h3=>⟨h.lo lo h1 h2,h3⟩⟩
def isRow (bl:Blk) (row:List V):Prop:=bl = .cells row∨bl = .view row
theorem rd_row {bl:Blk} {row:List V} {o:Nat} {v:V} (h:isRow bl row) (hr:row[o]? = some v) (h1:v.one=true) {id:Nat} {k:V→R}:rdB id bl o k=k v:=by
 rcases h with rfl | rfl
 ·show nth id row o k=_
  exact nth_get hr
 ·show nth id row o (fun v=>isOne id v (k v))=_
  rw [nth_get hr]
  cases v <;> first | rfl | cases h1
def NoneV (v:V):Prop:=v = .nils ∨ ∃ b o c s,v = .slice b o 0 c s
theorem Fresh.own {H H1 H2:Heap} {O1 O2:Nat→Prop} (f:Fresh H H1) (s:Step H1 O1 H2 O2) (h:∀ b,O1 b→H.n≤b):Fresh H H2 ∧ ∀ b,O2 b→H.n≤b:=by
 have hn:∀ b,b<H.n → ¬ O1 b:=fun b hb ho=>by have:=h b ho;omega
 refine ⟨⟨s.wf,Nat.le_trans f.n s.n,fun b hb=>((s.same b (Nat.lt_of_lt_of_le hb f.n) (hn b hb)).1).trans (f.same b hb),fun lo h1 h2=>(s.lo lo (f.lo lo h1 h2) (Nat.le_trans h2 f.n) fun b hb=>Nat.le_trans h2 (h b hb)).1⟩,fun b hb => ?_⟩
 rcases Nat.lt_or_ge b H.n with h1 | h1
 ·exact absurd hb (s.same b (Nat.lt_of_lt_of_le h1 f.n) (hn b h1)).2
 ·exact h1
theorem Fresh.unmark {G G':Heap} (h:Fresh G.mark G'):Fresh G (G'.unmark G.wlo)∧G.n≤G'.wlo:=
 ⟨⟨h.wf,h.n,h.same,fun _ h1 _=>h1⟩,h.lo G.n (Nat.le_refl _) (Nat.le_refl _)⟩
theorem enc_append:∀ (a b:List UInt8),enc (a ++ b)=enc a+enc b * 256 ^ a.length
 | [],b=>by simp [enc]
 | x :: a,b=>by
  simp only [List.cons_append,enc,enc_append a b,List.length_cons,Nat.pow_succ]
  have h:256 * (enc b * 256 ^ a.length)=enc b * (256 ^ a.length * 256):=by rw [Nat.mul_left_comm,Nat.mul_comm 256]
  omega
theorem tv_append (a b:List UInt8):V.str (a.length+b.length) (enc a+enc b * 256 ^ a.length)=tv (a ++ b):=by
 simp only [tv,List.length_append,enc_append]
theorem toNat_ofNat {n:Nat} (h:n<256):(UInt8.ofNat n).toNat=n:=by simp;omega
theorem gt_un {a b:Nat} (ha:a<18446744073709551616) (hb:b<18446744073709551616):(evCF (.gt 0 18446744073709551616) a b=true)=(b<a):=by
 rw [cf_gt,Nat.add_zero,Nat.add_zero,Nat.mod_eq_of_lt ha,Nat.mod_eq_of_lt hb]
theorem lt_un {a b:Nat} (ha:a<18446744073709551616) (hb:b<18446744073709551616):(evCF (.lt 0 18446744073709551616) a b=true)=(a<b):=by
 rw [cf_lt,Nat.add_zero,Nat.add_zero,Nat.mod_eq_of_lt ha,Nat.mod_eq_of_lt hb]
theorem enc_at:∀ (l:List UInt8) (i:Nat) (h:i<l.length),enc l >>> (8 * i) &&& 255=l[i].toNat
 | x :: l,0,_=>by
  have hx:=x.toNat_lt
  rw [Nat.mul_zero,Nat.shiftRight_zero]
  simp only [enc]
  have h:=Nat.and_two_pow_sub_one_eq_mod (x.toNat+256 * enc l) 8
  simp only [show (2:Nat) ^ 8-1=255 by rfl,show (2:Nat) ^ 8=256 by rfl] at h
  rw [h]
  simp only [List.getElem_cons_zero]
  omega
 | x :: l,i+1,h=>by
  have hx:=x.toNat_lt
  have h1:enc (x :: l) >>> (8 * (i+1))=enc l >>> (8 * i):=by
   rw [show 8 * (i+1)=8+8 * i by omega,Nat.shiftRight_add]
   congr 1
   rw [Nat.shiftRight_eq_div_pow]
   simp only [enc]
   omega
  rw [h1,enc_at l i (by simpa using h)]
  simp
theorem enc_drop:∀ (l:List UInt8) (i:Nat),enc l >>> (8 * i)=enc (l.drop i)
 | l,0=>by simp
 | [],i+1=>by simp [enc]
 | x :: l,i+1=>by
  have hx:=x.toNat_lt
  rw [List.drop_succ_cons,← enc_drop l i,show 8 * (i+1)=8+8 * i by omega,Nat.shiftRight_add]
  congr 1
  rw [Nat.shiftRight_eq_div_pow]
  simp only [enc]
  omega
theorem enc_take (l:List UInt8) (n:Nat) (h:n≤l.length):enc l % 256 ^ n=enc (l.take n):=by
 have h1:=enc_append (l.take n) (l.drop n)
 have h2:=enc_lt (l.take n)
 rw [List.take_append_drop,List.length_take,Nat.min_eq_left h] at h1
 rw [List.length_take,Nat.min_eq_left h] at h2
 rw [h1,Nat.mul_comm,Nat.add_mul_mod_self_left,Nat.mod_eq_of_lt h2]
theorem drop_more {all a rest:List UInt8} {pos:Nat} (h:all.drop pos=a ++ rest):all.drop (pos+a.length)=rest:=by
 rw [← List.drop_drop,h,List.drop_left]
theorem drop_len {all a:List UInt8} {pos:Nat} (h:all.drop pos=a) (ha:a≠[]):pos+a.length≤all.length:=by
 have:=congrArg List.length h
 rw [List.length_drop] at this
 have:0<a.length:=List.length_pos_iff.2 ha
 omega
theorem tv_inj {a b:List UInt8} (h:tv a=tv b):a=b:=by
 simp only [tv,V.str.injEq] at h
 rw [← sbytes_enc a,← sbytes_enc b,h.1,h.2]
theorem allOne_all {id:Nat} {k:R}:∀ {l:List V},(∀ v ∈ l,v.one=true)→allOne id l k=k
 | [],_=>rfl
 | v :: l,h=>by
  rw [allOne_cons,allOne_all fun v hv=>h v (List.mem_cons_of_mem _ hv)]
  have:=h v (List.mem_cons_self ..)
  cases v <;> first | rfl | (simp [V.one] at this)
def Gr (H G:Heap) (v:V) (size n:Nat) (row:List V):Prop:=row.length=n * size∧(∀ v ∈ row,v.one=true)∧((v = .nils∧n=0) ∨ ∃ b c s,v = .slice b 0 n c s∧0<n∧(c=n+1∨(c=0∧s=size))∧G.get b = .cells row∧H.n≤b∧b<G.n)
theorem Gr.nils {H G:Heap} {size:Nat}:Gr H G .nils size 0 []:=⟨by simp,fun v h=>(by cases h),Or.inl ⟨rfl,rfl⟩⟩
theorem Gr.fresh {H G G':Heap} {v:V} {size n:Nat} {row:List V} (h:Gr H G v size n row) (f:Fresh G G'):Gr H G' v size n row:=by
 obtain ⟨h1,h2,h | ⟨b,c,s,g1,g2,g3,g4,g5,g6⟩⟩:=h
 ·exact ⟨h1,h2,Or.inl h⟩
 ·exact ⟨h1,h2,Or.inr ⟨b,c,s,g1,g2,g3,(f.same b g6).trans g4,g5,Nat.lt_of_lt_of_le g6 f.n⟩⟩
theorem Gr.sn {H G:Heap} {v:V} {size n:Nat} {row:List V} (h:Gr H G v size n row) {id:Nat} {f:Nat→R}:vSliceN id v (fun _ _ len _ _=>f len) (f 0)=f n:=by
 obtain ⟨h1,h2,⟨rfl,rfl⟩ | ⟨b,c,s,rfl,_⟩⟩:=h <;> rfl
theorem Gr.one {H G:Heap} {v:V} {size n:Nat} {row:List V} (h:Gr H G v size n row):v.one=true:=by
 obtain ⟨h1,h2,⟨rfl,rfl⟩ | ⟨b,c,s,rfl,_⟩⟩:=h <;> rfl
theorem is1_of {v:V} (h:v.one=true) {id:Nat} {k:R}:isOne id v k=k:=by
 revert h;cases v <;> intro h <;> first | rfl | cases h
def Off (v:V) (j:Nat):Prop:=∀ b o n c s,v = .slice b o n c s→j≠b
theorem Gr.app {H G:Heap} {v:V} {size n X cx sx:Nat} {row new:List V} (f:Fresh H G) (h:Gr H G v size n row) (hX:G.get X = .cells new) (hl:new.length=size) (hone:∀ v ∈ new,v.one=true) (hb:n<1000000) :
  ∃ v' G',(∀ {id:Nat} {ph:Phi} {e:Env} {k:K} {a x:Arg},pgetA a e=v→pgetA x e = .slice X 0 1 cx sx→evOp (.app false size a x) id ph e G k=k v' G')∧Gr H G' v' size (n+1) (row ++ new)∧Fresh H G'∧(∀ j,j<G.n→Off v j→G'.get j=G.get j)∧G.n<G'.n ∧ ∀ j,j<G.n→Off v' j:=by
 have hw:=f.wf
 have hld:∀ {id:Nat} {g:List V→R},rdN id G X 0 (1 * size) g=g new:=fun {id g}=>by
  rw [rdN_on,hX,rdNB_cells,dropN_eq (Nat.zero_le _),takeN_eq (by simp [hl])]
  rw [List.drop_zero,Nat.one_mul,List.take_of_length_le (by omega)]
 obtain ⟨h1,h2,⟨rfl,rfl⟩ | ⟨b,c,s,rfl,g2,g3,g4,g5,g6⟩⟩:=h
 ·have hr:row=[]:=List.eq_nil_of_length_eq_zero (by omega)
  subst hr
  refine ⟨.slice G.n 0 1 0 size,G.new (.cells new),fun {id ph e k a x} ha hx => ?_,⟨by simp [hl],by simpa using hone,Or.inr ⟨G.n,0,size,rfl,by omega,Or.inr ⟨rfl,rfl⟩, ?_,f.n,by rw [Heap.n_new];omega⟩⟩,f.trans (Fresh.new hw),fun j hj _ => ?_,by rw [Heap.n_new];omega,fun j hj b o n c s he => ?_⟩
  ·rw [op_app,ha,hx,newCells_slice,if_neg (by omega),hld]
   rw [vSliceN_nils,if_neg (by omega),allOne_all hone,if_pos (by omega),hNew_new hw]
  ·rw [Heap.get_new hw,if_pos rfl];rfl
  ·rw [Heap.get_new hw,if_neg (by omega)]
  ·cases he;omega
 ·have hlr:∀ {id:Nat} {g:List V→R},loadN id G b 0 (n * size) g=g row:=fun {id g}=>by
   rw [loadN_on,g4,bOn_cells,dropN_eq (Nat.zero_le _),takeN_eq (by simp [h1])]
   rw [List.drop_zero,List.take_of_length_le (by omega)]
  have hlen:(row ++ new).length=(n+1) * size:=by rw [List.length_append,h1,hl,Nat.add_mul,Nat.one_mul]
  have hon:∀ v ∈ row ++ new,v.one=true:=fun v hv=>(List.mem_append.1 hv).elim (h2 v) (hone v)
  rcases g3 with rfl | ⟨rfl,rfl⟩
  ·refine ⟨.slice G.n 0 (n+1) 0 size,G.new (.cells (row ++ new)),fun {id ph e k a x} ha hx => ?_,⟨hlen,hon,Or.inr ⟨G.n,0,size,rfl,by omega,Or.inr ⟨rfl,rfl⟩, ?_,f.n,by rw [Heap.n_new];omega⟩⟩,f.trans (Fresh.new hw),fun j hj _ => ?_,by rw [Heap.n_new];omega,fun j hj b o n c s he => ?_⟩
   ·rw [op_app,ha,hx,newCells_slice,if_neg (by omega),hld]
    rw [vSliceN_slice,if_neg (by omega),appC_grow (by omega),allOne_all hone,if_pos (by omega),hlr,allOne_all h2,hNew_new hw]
   ·rw [Heap.get_new hw,if_pos rfl]
   ·rw [Heap.get_new hw,if_neg (by omega)]
   ·cases he;omega
  ·have hw2:(G.put b .dead).wf:=by rw [Heap.wf_put];exact hw
   refine ⟨.slice G.n 0 (n+1) 0 s,(G.put b .dead).new (.cells (row ++ new)),fun {id ph e k a x} ha hx => ?_,⟨hlen,hon,Or.inr ⟨G.n,0,s,rfl,by omega,Or.inr ⟨rfl,rfl⟩, ?_,f.n,by rw [Heap.n_new,Heap.n_put];omega⟩⟩,(f.put g5 g6).trans (Fresh.new hw2),fun j hj ho => ?_,by rw [Heap.n_new,Heap.n_put];omega,fun j hj b o n c s he => ?_⟩
   ·rw [op_app,ha,hx,newCells_slice,if_neg (by omega),hld]
    rw [vSliceN_slice,if_neg (by omega),appC_move,allOne_all hone,if_pos (by omega),g4,bOn_cells,if_pos h1,hSet_put hw g6,hNew_new hw2,Heap.n_put]
   ·rw [Heap.get_new hw2,if_pos (by rw [Heap.n_put])]
   ·rw [Heap.get_new hw2,if_neg (by rw [Heap.n_put];omega),Heap.get_put hw g6,if_neg (ho _ _ _ _ _ rfl)]
   ·cases he;omega
end Go.Ev
end
section
namespace Go.Ev
open Go.RowKit
structure KRow where
 w:List UInt8
 a:Nat
 b:Nat
 d:Bool
def kindsT:List KRow:=[⟨[100,101,108,105,118,101,114],9999,18446744073709551615,false⟩,⟨[100,114,111,112],9999,18446744073709551615,false⟩,⟨[116,119,105,99,101],9999,18446744073709551615,false⟩,⟨[116,105,99,107],5,9999,false⟩,⟨[99,114,97,115,104],5,9999,false⟩,⟨[119,97,107,101],5,9999,false⟩,⟨[119,114,105,116,101],5,7,true⟩,⟨[115,110,97,112],5,18446744073709551615,false⟩,⟨[104,105,100,101],5,9999,false⟩,⟨[99,117,116],5,5,false⟩,⟨[106,111,105,110],5,5,false⟩,⟨[99,97,108,109],9999,18446744073709551615,false⟩]
def KRow.cells (n:Nat) (r:KRow):List V:=[.int 3 n,tv r.w, .int 3 r.a, .int 3 r.b, .bool r.d]
structure Stp where
 k:Nat
 a:Nat
 b:Nat
 d:List UInt8
 deriving DecidableEq
def Stp.cells (s:Stp):List V:=[.int 3 s.k, .int 3 s.a, .int 3 s.b,tv s.d]
def stp0:Stp:=⟨0,0,0,[]⟩
def findB (c:UInt8):List UInt8→Option Nat
 | []=>none
 | x :: l=>if x=c then some 0 else (findB c l).map (· + 1)
def oddB (b:UInt8):Bool:=decide (b.toNat<33) || decide (126<b.toNat)
structure DecOK (dec:List UInt8→Nat × Nat):Prop where
 low:∀ b l,b.toNat<128→dec (b :: l)=(b.toNat,1)
 rune:∀ b l,128≤b.toNat→128≤(dec (b :: l)).1∧(dec (b :: l)).1<2147483648
 size:∀ b l,128≤b.toNat→1≤(dec (b :: l)).2∧(dec (b :: l)).2≤(b :: l).length
 high:∀ b l,128≤b.toNat → ∀ x ∈ (b :: l).take (dec (b :: l)).2,128≤x.toNat
def decD (n:Nat):List UInt8:=if n<10 then [UInt8.ofNat (48+n)] else if n<100 then [UInt8.ofNat (48+n / 10),UInt8.ofNat (48+n % 10)] else if n<1000 then [UInt8.ofNat (48+n / 100),UInt8.ofNat (48+n / 10 % 10),UInt8.ofNat (48+n % 10)] else [UInt8.ofNat (48+n / 1000),UInt8.ofNat (48+n / 100 % 10),UInt8.ofNat (48+n / 10 % 10),UInt8.ofNat (48+n % 10)]
structure NumOK (num:List UInt8→Nat):Prop where
 lt:∀ s,num s<18446744073709551616
 is:∀ s n,n<10000→(num s=n↔s=decD n)
def nIndex (args:List V) (H:Heap) (k:K):R:=match args with
 | [.str l n, .str l2 n2]=>if l2=1∧n2=10∧l≤16777216 then k (.int 3 (match findB 10 (sbytes l n) with | some i=>i | none=>18446744073709551615)) H else no 0
 | _=>no 0
def nDecode (dec:List UInt8→Nat × Nat) (args:List V) (H:Heap) (k:K):R:=match args with
 | [.str l n]=>if 0<l∧l≤16777216 then k (.tup [.int 2 (dec (sbytes l n)).1, .int 3 (dec (sbytes l n)).2]) H else no 0
 | _=>no 0
def nContains (args:List V) (H:Heap) (k:K):R:=match args with
 | [.str l n, .func f []]=>if f=66∧l≤16777216 then k (.bool ((sbytes l n).any oddB)) H else no 0
 | _=>no 0
def nNumber (num:List UInt8→Nat) (args:List V) (H:Heap) (k:K):R:=match args with
 | [.str l n]=>if l≤16777216 then k (.int 3 (num (sbytes l n))) H else no 0
 | _=>no 0
noncomputable def nAs (args:List V) (H:Heap) (k:K):R:=match args with
 | [.nili,_]=>k (.bool false) H
 | [.iface t v, .iface t2 (.ptr b 0)]=>match v,H.get b with
  | .int 3 c, .cells [.int 3 _]=>if t=25∧t2=70 then hSet 0 H b (.cells [.int 3 c]) fun H=>k (.bool true) H else no 0
  | .ptr q 0, .cells [.nilp]=>if t=43∧t2=74 then hSet 0 H b (.cells [.ptr q 0]) fun H=>k (.bool true) H else no 0
  | _,_=>no 0
 | _=>no 0
noncomputable def nIs (args:List V) (H:Heap) (k:K):R:=match args with
 | [.iface t (.ptr q 0), .iface t2 (.int 3 c)]=>match H.get q with
  | .cells [.int 3 c', .int 3 _]=>if t=43∧t2=25 then k (.bool (Nat.beq c' c)) H else no 0
  | _=>no 0
 | _=>no 0
def nAs0 (args:List V) (H:Heap) (k:K):R:=match args with
 | [.nili,_]=>k (.bool false) H
 | _=>no 0
section
variable {t:Nat→Option FnE} {cp:RC→CodeE} {fuel d:Nat} {H:Heap} {k:K} {dec:List UInt8→Nat × Nat} {num:List UInt8→Nat}
structure SNat (t:Nat→Option FnE) (dec:List UInt8→Nat × Nat) (num:List UInt8→Nat):Prop where
 index:t 59=some (.nat nIndex)
 decode:t 58=some (.nat (nDecode dec))
 contains:t 32=some (.nat nContains)
 number:t 45=some (.nat (nNumber num))
 as_:∃ g,t 27=some (.nat g) ∧ ∀ (x:V) (H:Heap) (k:K),g [.nili,x] H k=k (.bool false) H
 dok:DecOK dec
 nok:NumOK num
theorem index_call (S:SNat t dec num) {s:List UInt8} (h:s.length≤16777216):callP (evP cp t fuel (d+1)) (.func 118 []) [tv s, .str 1 10] H k=k (.int 3 (match findB 10 s with | some i=>i | none=>18446744073709551615)) H:=by
 rw [call_nat S.index rfl rfl]
 show (if 1=1∧10=10∧s.length≤16777216 then k (.int 3 (match findB 10 (sbytes s.length (enc s)) with | some i=>i | none=>18446744073709551615)) H else no 0)=_
 rw [sbytes_enc,if_pos ⟨rfl,rfl,h⟩]
theorem decode_call (S:SNat t dec num) {s:List UInt8} (h0:0<s.length) (h:s.length≤16777216):callP (evP cp t fuel (d+1)) (.func 116 []) [tv s] H k=k (.tup [.int 2 (dec s).1, .int 3 (dec s).2]) H:=by
 rw [call_nat S.decode rfl rfl]
 show (if 0<s.length∧s.length≤16777216 then k (.tup [.int 2 (dec (sbytes s.length (enc s))).1, .int 3 (dec (sbytes s.length (enc s))).2]) H else no 0)=_
 rw [sbytes_enc,if_pos ⟨h0,h⟩]
theorem contains_call (S:SNat t dec num) {s:List UInt8} (h:s.length≤16777216):callP (evP cp t fuel (d+1)) (.func 64 []) [tv s, .func 66 []] H k=k (.bool (s.any oddB)) H:=by
 rw [call_nat S.contains rfl rfl]
 show (if 66=66∧s.length≤16777216 then k (.bool ((sbytes s.length (enc s)).any oddB)) H else no 0)=_
 rw [sbytes_enc,if_pos ⟨rfl,h⟩]
theorem number_call (S:SNat t dec num) {s:List UInt8} (h:s.length≤16777216):callP (evP cp t fuel (d+1)) (.func 90 []) [tv s] H k=k (.int 3 (num s)) H:=by
 rw [call_nat S.number rfl rfl]
 show (if s.length≤16777216 then k (.int 3 (num (sbytes s.length (enc s)))) H else no 0)=_
 rw [sbytes_enc,if_pos h]
end
def encT (D:List (List UInt8 × V)):List (V × V):=D.map fun p=>(tv p.1,p.2)
def lkT (D:List (List UInt8 × V)) (a:List UInt8):Option V:=match D with
 | []=>none
 | p :: D=>if a=p.1 then some p.2 else lkT D a
section
variable {id:Nat}
theorem keyEq_tv {a b:List UInt8} {f:Bool→R}:keyEq id true (tv a) (tv b) f=f (decide (a=b)):=by
 show ifB (Nat.beq a.length b.length) (f (Nat.beq (enc a) (enc b))) (f false)=_
 rw [ifB_if]
 by_cases h:a=b
 ·subst h
  rw [if_pos (by simp),decide_eq_true rfl]
  congr 1
  simp
 ·rw [decide_eq_false h]
  split
  ·rename_i h1
   congr 1
   rw [Bool.eq_false_iff]
   intro h2
   exact h (tv_inj (by simp only [tv,Nat.eq_of_beq_eq_true h1,Nat.eq_of_beq_eq_true h2]))
  ·rfl
theorem lookL_T {a:List UInt8} {f:V→R} {z:R}:∀ {D:List (List UInt8 × V)},lookL id true (encT D) (tv a) f z=optOn (lkT D a) f z
 | []=>rfl
 | (b,v) :: D=>by
  show keyEq id true (tv a) (tv b) (fun c=>ifB c (f v) (lookL id true (encT D) (tv a) f z))=_
  rw [keyEq_tv,ifB_if,lookL_T (D:=D)]
  simp only [lkT]
  by_cases h:a=b
  ·rw [if_pos (decide_eq_true h),if_pos h];rfl
  ·rw [if_neg (by simp [h]),if_neg h]
theorem setL_T {a:List UInt8} {y:V}:∀ {D:List (List UInt8 × V)} {f:List (V × V)→R},(∀ p ∈ D,p.1≠a)→setL id true (encT D) (tv a) y f=f (encT (D ++ [(a,y)]))
 | [],f,_=>rfl
 | (b,v) :: D,f,h=>by
  show keyEq id true (tv a) (tv b) (fun c=>ifB c (f ((tv b,y) :: encT D)) (setL id true (encT D) (tv a) y fun r=>f ((tv b,v) :: r)))=_
  rw [keyEq_tv,decide_eq_false (fun e=>h _ (List.mem_cons_self ..) e.symm),setL_T fun p hp=>h p (List.mem_cons_of_mem _ hp)]
  rfl
end
end Go.Ev
end
section
namespace Go.Ev
def rowK:Nat→List KRow→Nat→List V
 | _,[],_ => []
 | i,r :: l,j=>r.cells (if j<i then j else 0) ++ rowK i l (j+1)
abbrev kRow (i:Nat):List V:=rowK i kindsT 0
def mapK:Nat→List KRow→Nat→List (List UInt8 × V)
 | 0,_,_ => []
 | _,[],_ => []
 | i+1,r :: l,j=>(r.w, .agg (r.cells j)) :: mapK i l (j+1)
abbrev kMap (i:Nat):List (List UInt8 × V):=mapK i kindsT 0
theorem kRow_len:∀ i,(kRow i).length=60:=fun i=>rfl
theorem ne_of_all {D:List (List UInt8 × V)} {w:List UInt8} (h:(D.map (·.1)).all (fun x=>decide (x≠w))=true):∀ p ∈ D,p.1≠w:=fun p hp=>by
 rw [List.all_eq_true] at h
 exact of_decide_eq_true (h _ (List.mem_map_of_mem hp))
theorem kRow_word:∀ i,i<12 → ∃ r,kindsT[i]? = some r∧(kRow (i+1))[i * 5+1]? = some (tv r.w)∧((kRow (i+1)).drop (i * 5)).take 5=r.cells i∧(kRow i).set (i * 5) (.int 3 i)=kRow (i+1)∧kMap (i+1)=kMap i ++ [(r.w, .agg (r.cells i))] ∧ ∀ p ∈ kMap i,p.1≠r.w
 | 0,_=>⟨_,rfl,rfl,rfl,rfl,rfl,ne_of_all (by decide)⟩
 | 1,_=>⟨_,rfl,rfl,rfl,rfl,rfl,ne_of_all (by decide)⟩
 | 2,_=>⟨_,rfl,rfl,rfl,rfl,rfl,ne_of_all (by decide)⟩
 | 3,_=>⟨_,rfl,rfl,rfl,rfl,rfl,ne_of_all (by decide)⟩
 | 4,_=>⟨_,rfl,rfl,rfl,rfl,rfl,ne_of_all (by decide)⟩
 | 5,_=>⟨_,rfl,rfl,rfl,rfl,rfl,ne_of_all (by decide)⟩
 | 6,_=>⟨_,rfl,rfl,rfl,rfl,rfl,ne_of_all (by decide)⟩
 | 7,_=>⟨_,rfl,rfl,rfl,rfl,rfl,ne_of_all (by decide)⟩
 | 8,_=>⟨_,rfl,rfl,rfl,rfl,rfl,ne_of_all (by decide)⟩
 | 9,_=>⟨_,rfl,rfl,rfl,rfl,rfl,ne_of_all (by decide)⟩
 | 10,_=>⟨_,rfl,rfl,rfl,rfl,rfl,ne_of_all (by decide)⟩
 | 11,_=>⟨_,rfl,rfl,rfl,rfl,rfl,ne_of_all (by decide)⟩
 | n+12,h=>absurd h (by omega)
section
variable {t:Nat→Option FnE} {cp:RC→CodeE} {fuel:Nat} {H:Heap}
theorem kinds_loop (T:TCode t) {b m c s:Nat}:∀ (q i:Nat) (G:Heap),i+q=12→Fresh H G→G.get b = .cells (kRow i)→G.get m = .map (encT (kMap i))→H.n≤b→H.n≤m→b<G.n→m<G.n→b≠m →
  ∃ G',Fresh H G'∧G'.get b = .cells (kRow 12)∧G'.get m = .map (encT (kMap 12))∧G'.n=G.n∧(∀ j,j<G.n→j≠b→j≠m→G'.get j=G.get j) ∧ ∀ (d:Nat) (kx:Nat→KE) (r:Nat) (e:Env),q<r→pget ⟨.i0, .i0, .i4⟩ e = .slice b 0 12 c s→pget ⟨.i0, .i0, .i5⟩ e = .map m→pget ⟨.i0, .i4, .i1⟩ e = .int 3 12→pget ⟨.i0, .i4, .i2⟩ e = .int 3 i →
   ∀ x:R,(∀ e',pget ⟨.i0, .i0, .i4⟩ e' = .slice b 0 12 c s→pget ⟨.i0, .i0, .i5⟩ e' = .map m→kx 1 e' G'=x)→evL c16l0 fuel (evP cp t fuel d) kx r e G=x:=by
 intro q
 induction q with
 | zero=>
  intro i G hi f hb hm hHb hHm hbn hmn hne
  have hi':i=12:=by omega
  subst hi'
  refine ⟨G,f,hb,hm,rfl,fun _ _ _ _=>rfl,fun d kx r e hr h4 h5 h41 h42 x hx => ?_⟩
  obtain ⟨r,rfl⟩:∃ q,r=q+1:=⟨r-1,by omega⟩
  rw [evL_succ]
  simp only [go_sem,↓op_app,reduceCtorEq,Nat.reduceAdd,Nat.reduceSub,Nat.reduceMul,Nat.reduceEqDiff,Nat.reduceLT,Nat.reduceDiv,Nat.reduceMod,Nat.reduceLeDiff,↓reduceIte,c16l0,h41,h42]
  exact hx _ (by simp only [go_sem,reduceCtorEq,↓reduceIte,h4]) (by simp only [go_sem,reduceCtorEq,↓reduceIte,h5])
 | succ q ih=>
  intro i G hi f hb hm hHb hHm hbn hmn hne
  have hlt:i<12:=by omega
  obtain ⟨zr0,k1,k2,k3,k4,k5,k6⟩:=kRow_word i hlt
  have hw:=f.wf
  generalize hG1:G.put b (.cells (kRow (i+1)))=G1
  have f1:Fresh H G1:=by rw [← hG1];exact f.put hHb hbn
  have g1n:G1.n=G.n:=by rw [← hG1,Heap.n_put]
  have g1b:G1.get b = .cells (kRow (i+1)):=by rw [← hG1,Heap.get_put hw hbn,if_pos rfl]
  have g1o:∀ j,j≠b→G1.get j=G.get j:=fun j hj=>by rw [← hG1,Heap.get_put hw hbn,if_neg hj]
  have g1m:G1.get m = .map (encT (kMap i)):=(g1o m (Ne.symm hne)).trans hm
  have hmn1:m<G1.n:=by omega
  have hw1:=f1.wf
  generalize hG2:G1.put m (.map (encT (kMap (i+1))))=G2
  have f2:Fresh H G2:=by rw [← hG2];exact f1.put hHm hmn1
  have g2n:G2.n=G.n:=by rw [← hG2,Heap.n_put,g1n]
  have g2o:∀ j,j≠m→G2.get j=G1.get j:=fun j hj=>by rw [← hG2,Heap.get_put hw1 hmn1,if_neg hj]
  obtain ⟨G',f',z1,z2,z3,z4,z5⟩:=ih (i+1) G2 (by omega) f2 ((g2o b hne).trans g1b) (by rw [← hG2,Heap.get_put hw1 hmn1,if_pos rfl]) hHb hHm (by omega) (by omega) hne
  refine ⟨G',f',z1,z2,z3.trans g2n,fun j h1 h2 h3=>(z4 j (by omega) h2 h3).trans ((g2o j h3).trans (g1o j h2)),fun d kx r e hr h4 h5 h41 h42 x hx => ?_⟩
  obtain ⟨r,rfl⟩:∃ q,r=q+1:=⟨r-1,by omega⟩
  have e1:nn i:=by unfold nn;omega
  have e2:i<9223372036854775808:=by omega
  have e3:(i+1) % 18446744073709551616=i+1:=by omega
  have e4:i * 5<60:=by omega
  have e7:∀ {id:Nat} {f:List V→R},setAt id [.int 3 i] (kRow i) (i * 5) f=f (kRow (i+1)):=fun {id f}=>by rw [setAt_one (by rw [kRow_len];exact e4),k4]
  have e8:∀ {id:Nat} {f:List V→R},dropN id (kRow (i+1)) (i * 5) f=f ((kRow (i+1)).drop (i * 5)):=fun {id f}=>dropN_eq (by rw [kRow_len];omega)
  have e9:∀ {id:Nat} {f:List V→R},takeN id ((kRow (i+1)).drop (i * 5)) 5 f=f (zr0.cells i):=fun {id f}=>by rw [takeN_eq (by rw [List.length_drop,kRow_len];omega),k3]
  have e10:∀ {id:Nat} {x:R},isKey id (tv zr0.w) x=x:=fun {id x}=>rfl
  have e11:¬ m=b:=Ne.symm hne
  have e5:∀ {id:Nat} {f:V→R},nth id (kRow (i+1)) (i * 5+1) f=f (tv zr0.w):=fun {id f}=>nth_get k2
  have e6:∀ {id:Nat} {f:List (V × V)→R},setL id true (encT (kMap i)) (tv zr0.w) (.agg (zr0.cells i)) f=f (encT (kMap (i+1))):=fun {id f}=>by rw [setL_T k6,k5]
  rw [evL_succ]
  simp only [go_sem,↓op_app,reduceCtorEq,Nat.reduceAdd,Nat.reduceSub,Nat.reduceMul,Nat.reduceEqDiff,Nat.reduceLT,Nat.reduceDiv,Nat.reduceMod,Nat.reduceLeDiff,↓reduceIte,c16l0,h4,h5,h41,h42,hlt,e1,e2,e3,e4,e5,e6,e7,e8,e9,e10,e11,hb,hbn,hmn,hm,hw,hG1,hmn1,hw1,g1n,g1b,g1m,hG2]
  refine z5 d kx r _ (by omega) ?_ ?_ ?_ ?_ x hx <;> simp only [go_sem,reduceCtorEq,↓reduceIte,h4,h5,h41,h42]
set_option maxRecDepth 20000 in
theorem kinds_call (T:TCode t) (hw:H.wf) (hfu:100<fuel):∃ G m b c s,Fresh H G∧G.get m = .map (encT (kMap 12))∧G.get b = .cells (kRow 12)∧H.n≤m∧m<G.n∧H.n≤b∧b<G.n∧m≠b ∧
  ∀ (d:Nat) (k:K),callP (evP cp t fuel (d+1)) (.func 32 []) [] H k=k (.tup [.map m, .slice b 0 12 c s]) G:=by
 generalize hG1:H.new (.cells (kRow 0))=G1
 have f1:Fresh H G1:=by rw [← hG1];exact Fresh.new hw
 have g1n:G1.n=H.n+1:=by rw [← hG1,Heap.n_new]
 have g1b:G1.get H.n = .cells (kRow 0):=by rw [← hG1,Heap.get_new hw,if_pos rfl]
 have hw1:=f1.wf
 generalize hG2:G1.new (.map [])=G2
 have f2:Fresh H G2:=by rw [← hG2];exact f1.trans (Fresh.new hw1)
 have g2n:G2.n=H.n+2:=by rw [← hG2,Heap.n_new,g1n]
 have g2m:G2.get (H.n+1) = .map (encT (kMap 0)):=by rw [← hG2,Heap.get_new hw1,if_pos g1n.symm];rfl
 have g2b:G2.get H.n = .cells (kRow 0):=by rw [← hG2,Heap.get_new hw1,if_neg (by omega)];exact g1b
 obtain ⟨G,f,z1,z2,z3,z4,z5⟩:=kinds_loop (cp:=cp) (fuel:=fuel) (c:=13) (s:=0) T 12 0 G2 (by omega) f2 g2b g2m (Nat.le_refl _) (by omega) (by omega) (by omega) (by omega)
 refine ⟨G,H.n+1,H.n,13,0,f,z2,z1,by omega,by omega,Nat.le_refl _,by omega,by omega,fun d k => ?_⟩
 rw [call_entry T.k16 rfl rfl]
 simp only [go_sem,↓op_app,reduceCtorEq,Nat.reduceAdd,Nat.reduceSub,Nat.reduceMul,Nat.reduceEqDiff,Nat.reduceLT,Nat.reduceDiv,Nat.reduceMod,Nat.reduceLeDiff,↓reduceIte,c16,hw]
 subst hG2
 subst hG1
 refine z5 d _ fuel _ (by omega) ?_ ?_ ?_ ?_ _ fun e' h4 h5 => ?_
 ·simp only [go_sem,reduceCtorEq,↓reduceIte]
 ·simp only [go_sem,reduceCtorEq,↓reduceIte]
 ·simp only [go_sem,reduceCtorEq,↓reduceIte]
 ·simp only [go_sem,reduceCtorEq,↓reduceIte]
 ·simp only [go_sem,reduceCtorEq,↓reduceIte,h4,h5]
end
end Go.Ev
end
section
namespace Go.Ev
section
variable {id:Nat}
theorem vStr_tv {l:List UInt8} {f:Nat→Nat→R}:vStr id (tv l) f=f l.length (enc l):=Eq.trans rfl rfl
theorem isOne_tv {l:List UInt8} {k:R}:isOne id (tv l) k=k:=Eq.trans rfl rfl
theorem isKey_tv {l:List UInt8} {k:R}:isKey id (tv l) k=k:=Eq.trans rfl rfl
theorem tv_one {l:List UInt8}:(tv l).one=true:=rfl
theorem tv_cons {x:UInt8} {l:List UInt8}:tv (x :: l) = .str (l.length+1) (x.toNat+256 * enc l):=rfl
theorem tv_nil:tv [] = .str 0 0:=rfl
theorem len_enc_eq {a b:List UInt8}:(a.length=b.length∧enc a=enc b)=(a=b):=by
 refine propext ⟨fun h => ?_,fun h=>by subst h;exact ⟨rfl,rfl⟩⟩
 exact tv_inj (by simp only [tv,h.1,h.2])
theorem len_enc_nil {a:List UInt8}:(a.length=0∧enc a=0)=(a=[]):=len_enc_eq (b:=[])
theorem str_sl {s:List UInt8} {lo hi:Nat} (h1:lo≤hi) (h2:hi≤s.length):V.str (hi-lo) ((enc s >>> (8 * lo)) % 256 ^ (hi-lo))=tv ((s.drop lo).take (hi-lo)):=by
 have h3:hi-lo≤(s.drop lo).length:=by rw [List.length_drop];omega
 rw [enc_drop,enc_take _ _ h3]
 simp only [tv,List.length_take,Nat.min_eq_left h3]
end
def within (n m:Nat):Bool:=decide (n<9223372036854775808) && decide (n≤if m<9223372036854775808 then m else 0)
def mayB (r:KRow) (s:Stp):Bool:=(if r.d then decide (s.d≠[]) && decide (s.d.length≤32) && !s.d.any oddB else decide (s.d=[])) && within s.a r.a && within s.b r.b
section
variable {t:Nat→Option FnE} {cp:RC→CodeE} {fuel:Nat} {H:Heap} {dec:List UInt8→Nat × Nat} {num:List UInt8→Nat}
theorem ge0 {n:Nat} (hn:n<18446744073709551616):(evCF (.ge 9223372036854775808 18446744073709551616) n 0=true)=(n<9223372036854775808):=by
 rw [cf_ge]
 apply propext
 omega
theorem max0 {m:Nat} (hm:m<18446744073709551616):mmN true 9223372036854775808 18446744073709551616 m 0=if m<9223372036854775808 then m else 0:=by
 unfold mmN
 rw [if_pos rfl]
 by_cases h:m<9223372036854775808
 ·rw [if_pos h];split <;> omega
 ·rw [if_neg h];split <;> omega
theorem within_call (T:TCode t) {n m:Nat} (hn:n<18446744073709551616) (hm:m<18446744073709551616) (d:Nat) (k:K):callP (evP cp t fuel (d+1)) (.func 62 []) [.int 3 n, .int 3 m] H k=k (.bool (within n m)) H:=by
 have e1:=ge0 hn
 have e2:=max0 hm
 have e3:nn (if m<9223372036854775808 then m else 0):=by unfold nn;split <;> omega
 rw [call_entry T.k31 rfl rfl]
 by_cases h:n<9223372036854775808
 ·have e4:nn n:=h
  simp only [go_sem,↓op_app,reduceCtorEq,Nat.reduceAdd,Nat.reduceSub,Nat.reduceMul,Nat.reduceEqDiff,Nat.reduceLT,Nat.reduceDiv,Nat.reduceMod,Nat.reduceLeDiff,↓reduceIte,c31,e1,e2,e3,e4,h]
  by_cases h2:n≤(if m<9223372036854775808 then m else 0)
  ·simp only [within,h,h2,if_true,decide_true,Bool.and_self]
  ·simp only [within,h,h2,if_false,decide_true,decide_false,Bool.and_false]
 ·simp only [go_sem,↓op_app,reduceCtorEq,Nat.reduceAdd,Nat.reduceSub,Nat.reduceMul,Nat.reduceEqDiff,Nat.reduceLT,Nat.reduceDiv,Nat.reduceMod,Nat.reduceLeDiff,↓reduceIte,c31,e1,h]
  simp only [within,h,decide_false,Bool.false_and]
theorem may_tail (T:TCode t) {G:Heap} {r:KRow} {i B C:Nat} {s:Stp} (hra:r.a<18446744073709551616) (hrb:r.b<18446744073709551616) (hsa:s.a<18446744073709551616) (hsb:s.b<18446744073709551616)
  (hB:G.get B = .cells (r.cells i)) (hC:G.get C = .cells s.cells) {tx:Bool} {e:Env} (h2:pget ⟨.i0, .i0, .i2⟩ e = .ptr B 0) (h3:pget ⟨.i0, .i0, .i3⟩ e = .ptr C 0) (h5:pget ⟨.i0, .i0, .i5⟩ e = .func 62 []) (h6:pget ⟨.i0, .i0, .i6⟩ e = .bool tx)
  (d:Nat) (kn:KE) (kx:Nat→KE) (x:R) (hx:∀ e',pget ⟨.i0, .i0, .i4⟩ e' = .bool (tx && within s.a r.a && within s.b r.b)→kx 0 e' G=x):evC c17r4 fuel (evP cp t fuel (d+1)) e G kn kx=x:=by
 have z1:=fun {k:K}=>within_call (H:=G) (cp:=cp) (fuel:=fuel) T hsa hra d k
 have z2:=fun {k:K}=>within_call (H:=G) (cp:=cp) (fuel:=fuel) T hsb hrb d k
 have b1:∀ {id:Nat} {f:V→R},nth id (r.cells i) 2 f=f (.int 3 r.a):=fun {id f}=>rfl
 have b2:∀ {id:Nat} {f:V→R},nth id (r.cells i) 3 f=f (.int 3 r.b):=fun {id f}=>rfl
 have zc1:∀ {id:Nat} {f:V→R},nth id s.cells 1 f=f (.int 3 s.a):=fun {id f}=>rfl
 have zc2:∀ {id:Nat} {f:V→R},nth id s.cells 2 f=f (.int 3 s.b):=fun {id f}=>rfl
 cases tx with
 | false=>
  simp only [go_sem,↓op_app,reduceCtorEq,Nat.reduceAdd,Nat.reduceSub,Nat.reduceMul,Nat.reduceEqDiff,Nat.reduceLT,Nat.reduceDiv,Nat.reduceMod,Nat.reduceLeDiff,↓reduceIte,c17r4,c17r5,h2,h3,h5,h6]
  exact hx _ (by simp only [go_sem,↓op_app,reduceCtorEq,Nat.reduceAdd,Nat.reduceSub,Nat.reduceMul,Nat.reduceEqDiff,Nat.reduceLT,Nat.reduceDiv,Nat.reduceMod,Nat.reduceLeDiff,↓reduceIte,Bool.false_and])
 | true=>
  cases hA:within s.a r.a with
  | false=>
   rw [hA] at hx z1
   simp only [go_sem,↓op_app,reduceCtorEq,Nat.reduceAdd,Nat.reduceSub,Nat.reduceMul,Nat.reduceEqDiff,Nat.reduceLT,Nat.reduceDiv,Nat.reduceMod,Nat.reduceLeDiff,↓reduceIte,c17r4,c17r5,h2,h3,h5,h6,hB,hC,b1,zc1,z1]
   exact hx _ (by simp only [go_sem,↓op_app,reduceCtorEq,Nat.reduceAdd,Nat.reduceSub,Nat.reduceMul,Nat.reduceEqDiff,Nat.reduceLT,Nat.reduceDiv,Nat.reduceMod,Nat.reduceLeDiff,↓reduceIte,Bool.and_false,Bool.false_and])
  | true=>
   rw [hA] at hx z1
   simp only [go_sem,↓op_app,reduceCtorEq,Nat.reduceAdd,Nat.reduceSub,Nat.reduceMul,Nat.reduceEqDiff,Nat.reduceLT,Nat.reduceDiv,Nat.reduceMod,Nat.reduceLeDiff,↓reduceIte,c17r4,c17r5,h2,h3,h5,h6,hB,hC,b1,b2,zc1,zc2,z1,z2]
   exact hx _ (by simp only [go_sem,↓op_app,reduceCtorEq,Nat.reduceAdd,Nat.reduceSub,Nat.reduceMul,Nat.reduceEqDiff,Nat.reduceLT,Nat.reduceDiv,Nat.reduceMod,Nat.reduceLeDiff,↓reduceIte,Bool.and_self,Bool.true_and])
theorem may_call (T:TCode t) (S:SNat t dec num) (hw:H.wf) {r:KRow} {i:Nat} {s:Stp} (hra:r.a<18446744073709551616) (hrb:r.b<18446744073709551616) (hsa:s.a<18446744073709551616) (hsb:s.b<18446744073709551616) (hd:s.d.length<9223372036854775808) :
  ∃ G,Fresh H G ∧ ∀ (d:Nat) (k:K),callP (evP cp t fuel (d+2)) (.func 34 []) [.agg (r.cells i), .agg s.cells] H k=k (.bool (mayB r s)) G:=by
 generalize hG1:H.new (.cells (r.cells i))=G1
 have f1:Fresh H G1:=by rw [← hG1];exact Fresh.new hw
 have g1n:G1.n=H.n+1:=by rw [← hG1,Heap.n_new]
 have g1b:G1.get H.n = .cells (r.cells i):=by rw [← hG1,Heap.get_new hw,if_pos rfl]
 have hw1:=f1.wf
 generalize hG2:G1.new (.cells s.cells)=G2
 have f2:Fresh H G2:=by rw [← hG2];exact f1.trans (Fresh.new hw1)
 have g2n:G2.n=H.n+2:=by rw [← hG2,Heap.n_new,g1n]
 have g2s:G2.get (H.n+1) = .cells s.cells:=by rw [← hG2,Heap.get_new hw1,if_pos g1n.symm]
 have g2r:G2.get H.n = .cells (r.cells i):=by rw [← hG2,Heap.get_new hw1,if_neg (by omega)];exact g1b
 refine ⟨G2,f2,fun d k => ?_⟩
 have a2:∀ {id:Nat} {x:R},allOne id (r.cells i) x=x:=fun {id x}=>rfl
 have a3:∀ {id:Nat} {x:R},allOne id s.cells x=x:=fun {id x}=>rfl
 have b3:∀ {id:Nat} {f:V→R},nth id (r.cells i) 4 f=f (.bool r.d):=fun {id f}=>rfl
 have zc3:∀ {id:Nat} {f:V→R},nth id s.cells 3 f=f (tv s.d):=fun {id f}=>rfl
 have l1:s.d.length<9223372036854775808:=hd
 have l2:nn s.d.length:=l1
 have fin:∀ {tx:Bool},(if r.d then decide (s.d≠[]) && decide (s.d.length≤32) && !s.d.any oddB else decide (s.d=[]))=tx→(tx && within s.a r.a && within s.b r.b)=mayB r s:=fun {tx} h=>by rw [mayB,h]
 rw [call_entry T.k17 rfl rfl]
 simp only [go_sem,↓op_app,reduceCtorEq,Nat.reduceAdd,Nat.reduceSub,Nat.reduceMul,Nat.reduceEqDiff,Nat.reduceLT,Nat.reduceDiv,Nat.reduceMod,Nat.reduceLeDiff,↓reduceIte,c17,hw,hG1,g1n,hG2,a2,a3,hw1]
 simp only [go_sem,↓op_app,reduceCtorEq,Nat.reduceAdd,Nat.reduceSub,Nat.reduceMul,Nat.reduceEqDiff,Nat.reduceLT,Nat.reduceDiv,Nat.reduceMod,Nat.reduceLeDiff,↓reduceIte,c17r1,c17r2]
 by_cases h0:s.d=[]
 ·have h0':(s.d=[])=True:=eq_true h0
  simp only [go_sem,↓op_app,reduceCtorEq,Nat.reduceAdd,Nat.reduceSub,Nat.reduceMul,Nat.reduceEqDiff,Nat.reduceLT,Nat.reduceDiv,Nat.reduceMod,Nat.reduceLeDiff,↓reduceIte,g2s,zc3,vStr_tv,isOne_tv,len_enc_nil,h0']
  by_cases hr:r.d=true
  ·simp only [go_sem,↓op_app,reduceCtorEq,Nat.reduceAdd,Nat.reduceSub,Nat.reduceMul,Nat.reduceEqDiff,Nat.reduceLT,Nat.reduceDiv,Nat.reduceMod,Nat.reduceLeDiff,↓reduceIte,c17r3,g2r,b3,hr]
   refine may_tail (tx:=false) T hra hrb hsa hsb g2r g2s ?_ ?_ ?_ ?_ d _ _ _ fun e' h4 => ?_
   ·simp only [go_sem,reduceCtorEq,↓reduceIte]
   ·simp only [go_sem,reduceCtorEq,↓reduceIte]
   ·simp only [go_sem,reduceCtorEq,↓reduceIte]
   ·simp only [go_sem,reduceCtorEq,↓reduceIte]
   ·simp only [go_sem,reduceCtorEq,↓reduceIte,h4]
    rw [fin (by simp [hr,h0])]
  ·have hr':r.d=false:=by simpa using hr
   simp only [go_sem,↓op_app,reduceCtorEq,Nat.reduceAdd,Nat.reduceSub,Nat.reduceMul,Nat.reduceEqDiff,Nat.reduceLT,Nat.reduceDiv,Nat.reduceMod,Nat.reduceLeDiff,↓reduceIte,c17r3,g2r,b3,hr']
   refine may_tail (tx:=true) T hra hrb hsa hsb g2r g2s ?_ ?_ ?_ ?_ d _ _ _ fun e' h4 => ?_
   ·simp only [go_sem,reduceCtorEq,↓reduceIte]
   ·simp only [go_sem,reduceCtorEq,↓reduceIte]
   ·simp only [go_sem,reduceCtorEq,↓reduceIte]
   ·simp only [go_sem,reduceCtorEq,↓reduceIte]
   ·simp only [go_sem,reduceCtorEq,↓reduceIte,h4]
    rw [fin (by simp [hr,h0])]
 ·simp only [go_sem,↓op_app,reduceCtorEq,Nat.reduceAdd,Nat.reduceSub,Nat.reduceMul,Nat.reduceEqDiff,Nat.reduceLT,Nat.reduceDiv,Nat.reduceMod,Nat.reduceLeDiff,↓reduceIte,g2s,zc3,vStr_tv,isOne_tv,len_enc_nil,h0]
  by_cases hr:r.d=true
  ·by_cases hl:s.d.length≤32
   ·have z3:=fun {k:K}=>contains_call (H:=G2) (cp:=cp) (fuel:=fuel) (d:=d) (k:=k) S (show s.d.length≤16777216 by omega)
    simp only [go_sem,↓op_app,reduceCtorEq,Nat.reduceAdd,Nat.reduceSub,Nat.reduceMul,Nat.reduceEqDiff,Nat.reduceLT,Nat.reduceDiv,Nat.reduceMod,Nat.reduceLeDiff,↓reduceIte,c17r3,g2r,g2s,b3,zc3,hr,vStr_tv,isOne_tv,l1,l2,hl,z3]
    refine may_tail (tx := !s.d.any oddB) T hra hrb hsa hsb g2r g2s ?_ ?_ ?_ ?_ d _ _ _ fun e' h4 => ?_
    ·simp only [go_sem,reduceCtorEq,↓reduceIte]
    ·simp only [go_sem,reduceCtorEq,↓reduceIte]
    ·simp only [go_sem,reduceCtorEq,↓reduceIte]
    ·simp only [go_sem,reduceCtorEq,↓reduceIte]
    ·simp only [go_sem,reduceCtorEq,↓reduceIte,h4]
     rw [fin (by simp [hr,h0,hl])]
   ·simp only [go_sem,↓op_app,reduceCtorEq,Nat.reduceAdd,Nat.reduceSub,Nat.reduceMul,Nat.reduceEqDiff,Nat.reduceLT,Nat.reduceDiv,Nat.reduceMod,Nat.reduceLeDiff,↓reduceIte,c17r3,g2r,g2s,b3,zc3,hr,vStr_tv,isOne_tv,l1,l2,hl]
    refine may_tail (tx:=false) T hra hrb hsa hsb g2r g2s ?_ ?_ ?_ ?_ d _ _ _ fun e' h4 => ?_
    ·simp only [go_sem,reduceCtorEq,↓reduceIte]
    ·simp only [go_sem,reduceCtorEq,↓reduceIte]
    ·simp only [go_sem,reduceCtorEq,↓reduceIte]
    ·simp only [go_sem,reduceCtorEq,↓reduceIte]
    ·simp only [go_sem,reduceCtorEq,↓reduceIte,h4]
     rw [fin (by simp [hr,h0,hl])]
  ·have hr':r.d=false:=by simpa using hr
   simp only [go_sem,↓op_app,reduceCtorEq,Nat.reduceAdd,Nat.reduceSub,Nat.reduceMul,Nat.reduceEqDiff,Nat.reduceLT,Nat.reduceDiv,Nat.reduceMod,Nat.reduceLeDiff,↓reduceIte,c17r3,g2r,b3,hr']
   refine may_tail (tx:=false) T hra hrb hsa hsb g2r g2s ?_ ?_ ?_ ?_ d _ _ _ fun e' h4 => ?_
   ·simp only [go_sem,reduceCtorEq,↓reduceIte]
   ·simp only [go_sem,reduceCtorEq,↓reduceIte]
   ·simp only [go_sem,reduceCtorEq,↓reduceIte]
   ·simp only [go_sem,reduceCtorEq,↓reduceIte]
   ·simp only [go_sem,reduceCtorEq,↓reduceIte,h4]
    rw [fin (by simp [hr,h0])]
end
end Go.Ev
end
section
namespace Go.Ev
abbrev neg1:Nat:=18446744073709551615
def findK:List KRow→Nat→List UInt8→Option (Nat × KRow)
 | [],_,_=>none
 | r :: l,j,w=>if w=r.w then some (j,r) else findK l (j+1) w
def kindB (w:List UInt8):Option (Nat × KRow):=findK kindsT 0 w
theorem lkT_map:∀ (l:List KRow) (n j:Nat) (w:List UInt8),l.length≤n→lkT (mapK n l j) w=(findK l j w).map fun p => .agg (p.2.cells p.1)
 | [],n,j,w,_=>by cases n <;> rfl
 | r :: l,0,j,w,h=>by simp at h
 | r :: l,n+1,j,w,h=>by
  simp only [mapK,lkT,findK]
  by_cases hw:w=r.w
  ·rw [if_pos hw,if_pos hw];rfl
  ·rw [if_neg hw,if_neg hw]
   exact lkT_map l n (j+1) w (by simpa using h)
theorem findK_mem:∀ (l:List KRow) (j:Nat) (w:List UInt8) (i:Nat) (r:KRow),findK l j w=some (i,r)→r ∈ l∧j≤i∧i<j+l.length∧l[i-j]? = some r∧r.w=w
 | r :: l,j,w,i,zr0,h=>by
  simp only [findK] at h
  by_cases hw:w=r.w
  ·rw [if_pos hw] at h
   obtain ⟨rfl,rfl⟩:=Prod.mk.inj (Option.some.inj h)
   exact ⟨List.mem_cons_self ..,Nat.le_refl _,by simp,by simp,hw.symm⟩
  ·rw [if_neg hw] at h
   obtain ⟨h1,h2,h3,h4,h5⟩:=findK_mem l (j+1) w i zr0 h
   refine ⟨List.mem_cons_of_mem _ h1,by omega,by simp only [List.length_cons];omega, ?_,h5⟩
   rw [show i-j=(i-(j+1))+1 by omega,List.getElem?_cons_succ]
   exact h4
theorem kinds_ok:∀ r ∈ kindsT,r.a<10000∧(r.b=neg1∨r.b<10000):=by decide
def stepP (num:List UInt8→Nat) (w:List (List UInt8)):Stp × Nat:=match kindB (w.headD []) with
 | none=>(stp0,15)
 | some (i,r)=>
  let l1:=w.tail.tail
  let l2:=if r.b=neg1 then l1 else l1.tail
  let l3:=if r.d=true then l2.tail else l2
  let s:Stp:=⟨i,num (w.tail.headD []),if r.b=neg1 then 0 else num (l1.headD []),if r.d=true then l2.headD [] else []⟩
  if l3=[]∧mayB r s=true then (s,0) else (stp0,4)
def errV (c:Nat):V:=if c=0 then .nili else .iface 25 (.int 3 c)
def WS (H:Heap) (v:V) (l:List (List UInt8)):Prop:=(NoneV v∧l=[])∨(l≠[] ∧ ∃ b o c s row,v = .slice b o l.length c s∧((c=0∧s=1)∨l.length+1≤c)∧H.get b = .cells row∧b<H.n ∧ ∀ i w,l[i]? = some w→row[o+i]? = some (tv w))
theorem WS.len {H:Heap} {v:V} {l:List (List UInt8)} (h:WS H v l) {id:Nat} {f:Nat→R}:vSliceN id v (fun _ _ n _ _=>f n) (f 0)=f l.length:=by
 rcases h with ⟨rfl | ⟨_,_,_,_,rfl⟩,rfl⟩ | ⟨_,_,_,_,_,_,rfl,_⟩ <;> rfl
theorem WS.one {H:Heap} {v:V} {l:List (List UInt8)} (h:WS H v l) {id:Nat} {k:R}:isOne id v k=k:=by
 rcases h with ⟨rfl | ⟨_,_,_,_,rfl⟩,rfl⟩ | ⟨_,_,_,_,_,_,rfl,_⟩ <;> rfl
theorem WS.sl {H:Heap} {b o c s:Nat} {x:List UInt8} {l:List (List UInt8)} {row:List V} (h2:(c=0∧s=1)∨(x :: l).length+1≤c) (h3:H.get b = .cells row) (h4:b<H.n) (h5:∀ i w,(x :: l)[i]? = some w→row[o+i]? = some (tv w)) :
  (c=0∧s=1∧WS H (.slice b (o+1) (l.length+1-1) 0 s) l)∨(c≠0∧l.length+1≤c-1∧c-1=1∧WS H (.slice b o (l.length+1-1) 1 0) l)∨(c≠0∧l.length+1≤c-1∧c-1≠1∧WS H (.slice b (o+1) (l.length+1-1) (c-1-1+1) 0) l):=by
 rw [Nat.add_sub_cancel]
 rcases h2 with ⟨rfl,rfl⟩ | h2
 ·refine Or.inl ⟨rfl,rfl, ?_⟩
  cases l with
  | nil=>exact Or.inl ⟨Or.inr ⟨_,_,_,_,rfl⟩,rfl⟩
  | cons y l=>exact Or.inr ⟨by simp,b,o+1,0,1,row,rfl,Or.inl ⟨rfl,rfl⟩,h3,h4,fun i w hi=>by rw [show o+1+i=o+(i+1) by omega];exact h5 (i+1) w (by simpa using hi)⟩
 ·simp only [List.length_cons] at h2
  refine Or.inr ?_
  by_cases hc:c-1=1
  ·have hl0:l=[]:=List.eq_nil_of_length_eq_zero (by omega)
   subst hl0
   exact Or.inl ⟨by omega,by simp;omega,hc,Or.inl ⟨Or.inr ⟨_,_,_,_,rfl⟩,rfl⟩⟩
  ·refine Or.inr ⟨by omega,by omega,hc, ?_⟩
   cases l with
   | nil=>exact Or.inl ⟨Or.inr ⟨_,_,_,_,rfl⟩,rfl⟩
   | cons y l=>exact Or.inr ⟨by simp,b,o+1,_,0,row,rfl,Or.inr (by simp only [List.length_cons] at h2 ⊢;omega),h3,h4,fun i w hi=>by rw [show o+1+i=o+(i+1) by omega];exact h5 (i+1) w (by simpa using hi)⟩
section
variable {t:Nat→Option FnE} {cp:RC→CodeE} {fuel:Nat} {H:Heap} {dec:List UInt8→Nat × Nat} {num:List UInt8→Nat}
theorem take_call (T:TCode t) {G:Heap} {v:V} {l:List (List UInt8)} {q:Nat} (f:Fresh H G) (h:WS H v l) (hR:H.n≤q) (hRn:q<G.n) (hg:G.get q = .cells [v]) (hl:l.length<1000000) :
  ∃ G' v',Fresh H G'∧G'.get q = .cells [v']∧WS H v' l.tail∧G'.n=G.n∧(∀ j,j≠q→G'.get j=G.get j) ∧ ∀ (d:Nat) (k:K),callP (evP cp t fuel (d+1)) (.func 88 [.ptr q 0]) [] G k=k (tv (l.headD [])) G':=by
 have hw:=f.wf
 cases l with
 | nil=>
  refine ⟨G,v,f,hg,h,rfl,fun _ _=>rfl,fun d k => ?_⟩
  rw [call_entry T.k44 rfl rfl]
  rcases h with ⟨rfl | ⟨_,_,_,_,rfl⟩,_⟩ | ⟨h,_⟩
  ·simp only [go_sem,↓op_app,reduceCtorEq,Nat.reduceAdd,Nat.reduceSub,Nat.reduceMul,Nat.reduceEqDiff,Nat.reduceLT,Nat.reduceDiv,Nat.reduceMod,Nat.reduceLeDiff,↓reduceIte,c44,hg]
   rfl
  ·simp only [go_sem,↓op_app,reduceCtorEq,Nat.reduceAdd,Nat.reduceSub,Nat.reduceMul,Nat.reduceEqDiff,Nat.reduceLT,Nat.reduceDiv,Nat.reduceMod,Nat.reduceLeDiff,↓reduceIte,c44,hg]
   rfl
  ·exact absurd rfl h
 | cons x l=>
  rcases h with ⟨_,h⟩ | ⟨_,b,o,c,s,row,rfl,g2,g3,g4,g5⟩
  ·cases h
  have e1:l.length+1<9223372036854775808:=by simp at hl;omega
  have e2:¬ l.length+1=0:=by omega
  have e3:G.get b = .cells row:=(f.same b g4).trans g3
  have e4:∀ {id:Nat} {f:V→R},nth id row o f=f (tv x):=fun {id f}=>nth_get (by simpa using g5 0 x rfl)
  have e5:0<l.length+1:=by omega
  have e7:1≤l.length+1:=by omega
  have go:∀ v',WS H v' l→(∀ (d:Nat) (k:K),callP (evP cp t fuel (d+1)) (.func 88 [.ptr q 0]) [] G k=k (tv x) (G.put q (.cells [v']))) → ∃ G' v',Fresh H G'∧G'.get q = .cells [v']∧WS H v' (x :: l).tail∧G'.n=G.n∧(∀ j,j≠q→G'.get j=G.get j) ∧ ∀ (d:Nat) (k:K),callP (evP cp t fuel (d+1)) (.func 88 [.ptr q 0]) [] G k=k (tv ((x :: l).headD [])) G':=
   fun v' h1 h2=>⟨G.put q (.cells [v']),v',f.put hR hRn,by rw [Heap.get_put hw hRn,if_pos rfl],h1,by rw [Heap.n_put],fun j hj=>by rw [Heap.get_put hw hRn,if_neg hj],h2⟩
  simp only [List.length_cons] at hg
  rcases WS.sl g2 g3 g4 g5 with ⟨a1,a2,a3⟩ | ⟨a1,a2,a4,a3⟩ | ⟨a1,a2,a4,a3⟩
  ·refine go _ a3 fun d k => ?_
   rw [call_entry T.k44 rfl rfl]
   simp only [go_sem,↓op_app,reduceCtorEq,Nat.reduceAdd,Nat.reduceSub,Nat.reduceMul,Nat.reduceEqDiff,Nat.reduceLT,Nat.reduceDiv,Nat.reduceMod,Nat.reduceLeDiff,↓reduceIte,c44,hg,e1,e2,e3,e4,e5,e7,isOne_tv,hw,hRn,a1,a2]
  ·have a5:=eq_true a4
   refine go _ a3 fun d k => ?_
   rw [call_entry T.k44 rfl rfl]
   simp only [go_sem,↓op_app,reduceCtorEq,Nat.reduceAdd,Nat.reduceSub,Nat.reduceMul,Nat.reduceEqDiff,Nat.reduceLT,Nat.reduceDiv,Nat.reduceMod,Nat.reduceLeDiff,↓reduceIte,c44,hg,e1,e2,e3,e4,e5,e7,isOne_tv,hw,hRn,a1,a2,a5]
  ·refine go _ a3 fun d k => ?_
   rw [call_entry T.k44 rfl rfl]
   simp only [go_sem,↓op_app,reduceCtorEq,Nat.reduceAdd,Nat.reduceSub,Nat.reduceMul,Nat.reduceEqDiff,Nat.reduceLT,Nat.reduceDiv,Nat.reduceMod,Nat.reduceLeDiff,↓reduceIte,c44,hg,e1,e2,e3,e4,e5,e7,isOne_tv,hw,hRn,a1,a2,a4]
structure SS (H G:Heap) (i:Nat) (r:KRow) (s:Stp) (v:V) (l:List (List UInt8)):Prop where
 f:Fresh H G
 n:H.n+4≤G.n
 b0:G.get H.n = .cells stp0.cells
 b1:G.get (H.n+1) = .cells (r.cells i)
 b2:G.get (H.n+2) = .cells s.cells
 b3:G.get (H.n+3) = .cells [v]
 ws:WS H v l
 len:l.length<1000000
 tx:∀ w ∈ l,w.length≤16777216
structure ES (H:Heap) (e:Env):Prop where
 e4:pget ⟨.i0, .i0, .i4⟩ e = .ptr H.n 0
 e6:pget ⟨.i0, .i0, .i6⟩ e = .ptr (H.n+1) 0
 e8:pget ⟨.i0, .i1, .i0⟩ e = .ptr (H.n+2) 0
 e9:pget ⟨.i0, .i1, .i1⟩ e = .ptr (H.n+3) 0
 e10:pget ⟨.i0, .i1, .i2⟩ e = .func 88 [.ptr (H.n+3) 0]
theorem SS.take (T:TCode t) {G:Heap} {i:Nat} {r:KRow} {s:Stp} {v:V} {l:List (List UInt8)} (h:SS H G i r s v l):∃ G' v',SS H G' i r s v' l.tail ∧ ∀ (d:Nat) (k:K),callP (evP cp t fuel (d+1)) (.func 88 [.ptr (H.n+3) 0]) [] G k=k (tv (l.headD [])) G':=by
 have hn:=h.n
 obtain ⟨G',v',f,z1,z2,z3,z4,z5⟩:=take_call (cp:=cp) (fuel:=fuel) T h.f h.ws (by omega) (by omega) h.b3 h.len
 refine ⟨G',v',⟨f,by omega, ?_, ?_, ?_,z1,z2, ?_,fun w hw=>h.tx w (List.mem_of_mem_tail hw)⟩,z5⟩
 ·rw [z4 _ (by omega)];exact h.b0
 ·rw [z4 _ (by omega)];exact h.b1
 ·rw [z4 _ (by omega)];exact h.b2
 ·have:=h.len
  simp only [List.length_tail]
  omega
theorem SS.head {G:Heap} {i:Nat} {r:KRow} {s:Stp} {v:V} {l:List (List UInt8)} (h:SS H G i r s v l):(l.headD []).length≤16777216:=by
 have:=h.tx
 cases l with
 | nil=>simp
 | cons x l=>exact this x (List.mem_cons_self ..)
theorem SS.put {G:Heap} {i:Nat} {r:KRow} {s s':Stp} {v:V} {l:List (List UInt8)} (h:SS H G i r s v l):SS H (G.put (H.n+2) (.cells s'.cells)) i r s' v l:=by
 have hn:=h.n
 have hw:=h.f.wf
 have hlt:H.n+2<G.n:=by omega
 refine ⟨h.f.put (by omega) hlt,by rw [Heap.n_put];exact hn, ?_, ?_, ?_, ?_,h.ws,h.len,h.tx⟩
 ·rw [Heap.get_put hw hlt,if_neg (by omega)];exact h.b0
 ·rw [Heap.get_put hw hlt,if_neg (by omega)];exact h.b1
 ·rw [Heap.get_put hw hlt,if_pos rfl]
 ·rw [Heap.get_put hw hlt,if_neg (by omega)];exact h.b3
theorem step_r6 (T:TCode t) (S:SNat t dec num) {G:Heap} {i:Nat} {r:KRow} {s:Stp} {v:V} {l:List (List UInt8)} (h:SS H G i r s v l):∃ G' v',SS H G' i r { s with a:=num (l.headD []) } v' l.tail ∧
  ∀ (d:Nat) (kn:KE) (kx:Nat→KE) (e:Env) (x:R),ES H e→(∀ e',ES H e'→evC c26r7 fuel (evP cp t fuel (d+1)) e' G' kn kx=x)→evC c26r6 fuel (evP cp t fuel (d+1)) e G kn kx=x:=by
 obtain ⟨G1,v1,h1,z1⟩:=h.take (cp:=cp) (fuel:=fuel) T
 refine ⟨_,v1,h1.put (s':={ s with a:=num (l.headD []) }),fun d kn kx e x E hx => ?_⟩
 have z1':=fun {k:K}=>z1 d k
 have z2:=fun {k:K}=>number_call (cp:=cp) (fuel:=fuel) (d:=d) (H:=G1) (k:=k) S h.head
 have q1:=E.e8
 have q2:=E.e10
 have a1:∀ {id:Nat} {f:List V→R},setAt id [.int 3 (num (l.headD []))] s.cells 1 f=f ({ s with a:=num (l.headD []) }:Stp).cells:=fun {id f}=>setAt_one (by simp [Stp.cells])
 have a2:=h1.b2
 have a3:=h1.f.wf
 have a4:H.n+2<G1.n:=by have:=h1.n;omega
 simp only [go_sem,↓op_app,reduceCtorEq,Nat.reduceAdd,Nat.reduceSub,Nat.reduceMul,Nat.reduceEqDiff,Nat.reduceLT,Nat.reduceDiv,Nat.reduceMod,Nat.reduceLeDiff,↓reduceIte,c26r6,q1,q2,z1',z2,a1,a2,a3,a4]
 refine hx _ ⟨?_, ?_, ?_, ?_, ?_⟩
 ·simp only [go_sem,↓op_app,reduceCtorEq,Nat.reduceAdd,Nat.reduceSub,Nat.reduceMul,Nat.reduceEqDiff,Nat.reduceLT,Nat.reduceDiv,Nat.reduceMod,Nat.reduceLeDiff,↓reduceIte,E.e4]
 ·simp only [go_sem,↓op_app,reduceCtorEq,Nat.reduceAdd,Nat.reduceSub,Nat.reduceMul,Nat.reduceEqDiff,Nat.reduceLT,Nat.reduceDiv,Nat.reduceMod,Nat.reduceLeDiff,↓reduceIte,E.e6]
 ·simp only [go_sem,↓op_app,reduceCtorEq,Nat.reduceAdd,Nat.reduceSub,Nat.reduceMul,Nat.reduceEqDiff,Nat.reduceLT,Nat.reduceDiv,Nat.reduceMod,Nat.reduceLeDiff,↓reduceIte,E.e8]
 ·simp only [go_sem,↓op_app,reduceCtorEq,Nat.reduceAdd,Nat.reduceSub,Nat.reduceMul,Nat.reduceEqDiff,Nat.reduceLT,Nat.reduceDiv,Nat.reduceMod,Nat.reduceLeDiff,↓reduceIte,E.e9]
 ·simp only [go_sem,↓op_app,reduceCtorEq,Nat.reduceAdd,Nat.reduceSub,Nat.reduceMul,Nat.reduceEqDiff,Nat.reduceLT,Nat.reduceDiv,Nat.reduceMod,Nat.reduceLeDiff,↓reduceIte,E.e10]
theorem step_r7 (T:TCode t) (S:SNat t dec num) {G:Heap} {i:Nat} {r:KRow} {s:Stp} {v:V} {l:List (List UInt8)} (h:SS H G i r s v l) (hs:s.b=0):∃ G' v',SS H G' i r { s with b:=if r.b=neg1 then 0 else num (l.headD []) } v' (if r.b=neg1 then l else l.tail) ∧
  ∀ (d:Nat) (kn:KE) (kx:Nat→KE) (e:Env) (x:R),ES H e→(∀ e',ES H e'→evC c26r8 fuel (evP cp t fuel (d+1)) e' G' kn kx=x)→evC c26r7 fuel (evP cp t fuel (d+1)) e G kn kx=x:=by
 have b1:∀ {id:Nat} {f:V→R},nth id (r.cells i) 3 f=f (.int 3 r.b):=fun {id f}=>rfl
 have zc1:=h.b1
 by_cases hb:r.b=neg1
 ·rw [if_pos hb,if_pos hb]
  refine ⟨G,v,by rw [← hs];exact h,fun d kn kx e x E hx => ?_⟩
  have q1:=E.e6
  have hb':(r.b=18446744073709551615)=True:=eq_true hb
  simp only [go_sem,↓op_app,reduceCtorEq,Nat.reduceAdd,Nat.reduceSub,Nat.reduceMul,Nat.reduceEqDiff,Nat.reduceLT,Nat.reduceDiv,Nat.reduceMod,Nat.reduceLeDiff,↓reduceIte,c26r7,q1,b1,zc1,hb']
  refine hx _ ⟨?_, ?_, ?_, ?_, ?_⟩
  ·simp only [go_sem,↓op_app,reduceCtorEq,Nat.reduceAdd,Nat.reduceSub,Nat.reduceMul,Nat.reduceEqDiff,Nat.reduceLT,Nat.reduceDiv,Nat.reduceMod,Nat.reduceLeDiff,↓reduceIte,E.e4]
  ·simp only [go_sem,↓op_app,reduceCtorEq,Nat.reduceAdd,Nat.reduceSub,Nat.reduceMul,Nat.reduceEqDiff,Nat.reduceLT,Nat.reduceDiv,Nat.reduceMod,Nat.reduceLeDiff,↓reduceIte,E.e6]
  ·simp only [go_sem,↓op_app,reduceCtorEq,Nat.reduceAdd,Nat.reduceSub,Nat.reduceMul,Nat.reduceEqDiff,Nat.reduceLT,Nat.reduceDiv,Nat.reduceMod,Nat.reduceLeDiff,↓reduceIte,E.e8]
  ·simp only [go_sem,↓op_app,reduceCtorEq,Nat.reduceAdd,Nat.reduceSub,Nat.reduceMul,Nat.reduceEqDiff,Nat.reduceLT,Nat.reduceDiv,Nat.reduceMod,Nat.reduceLeDiff,↓reduceIte,E.e9]
  ·simp only [go_sem,↓op_app,reduceCtorEq,Nat.reduceAdd,Nat.reduceSub,Nat.reduceMul,Nat.reduceEqDiff,Nat.reduceLT,Nat.reduceDiv,Nat.reduceMod,Nat.reduceLeDiff,↓reduceIte,E.e10]
 ·rw [if_neg hb,if_neg hb]
  obtain ⟨G1,v1,h1,z1⟩:=h.take (cp:=cp) (fuel:=fuel) T
  refine ⟨_,v1,h1.put (s':={ s with b:=num (l.headD []) }),fun d kn kx e x E hx => ?_⟩
  have z1':=fun {k:K}=>z1 d k
  have z2:=fun {k:K}=>number_call (cp:=cp) (fuel:=fuel) (d:=d) (H:=G1) (k:=k) S h.head
  have q1:=E.e8
  have q2:=E.e10
  have q3:=E.e6
  have a1:∀ {id:Nat} {f:List V→R},setAt id [.int 3 (num (l.headD []))] s.cells 2 f=f ({ s with b:=num (l.headD []) }:Stp).cells:=fun {id f}=>setAt_one (by simp [Stp.cells])
  have a2:=h1.b2
  have a3:=h1.f.wf
  have a4:H.n+2<G1.n:=by have:=h1.n;omega
  have hb':(r.b=18446744073709551615)=False:=eq_false hb
  simp only [go_sem,↓op_app,reduceCtorEq,Nat.reduceAdd,Nat.reduceSub,Nat.reduceMul,Nat.reduceEqDiff,Nat.reduceLT,Nat.reduceDiv,Nat.reduceMod,Nat.reduceLeDiff,↓reduceIte,c26r7,q1,q2,q3,b1,zc1,hb',z1',z2,a1,a2,a3,a4]
  refine hx _ ⟨?_, ?_, ?_, ?_, ?_⟩
  ·simp only [go_sem,↓op_app,reduceCtorEq,Nat.reduceAdd,Nat.reduceSub,Nat.reduceMul,Nat.reduceEqDiff,Nat.reduceLT,Nat.reduceDiv,Nat.reduceMod,Nat.reduceLeDiff,↓reduceIte,E.e4]
  ·simp only [go_sem,↓op_app,reduceCtorEq,Nat.reduceAdd,Nat.reduceSub,Nat.reduceMul,Nat.reduceEqDiff,Nat.reduceLT,Nat.reduceDiv,Nat.reduceMod,Nat.reduceLeDiff,↓reduceIte,E.e6]
  ·simp only [go_sem,↓op_app,reduceCtorEq,Nat.reduceAdd,Nat.reduceSub,Nat.reduceMul,Nat.reduceEqDiff,Nat.reduceLT,Nat.reduceDiv,Nat.reduceMod,Nat.reduceLeDiff,↓reduceIte,E.e8]
  ·simp only [go_sem,↓op_app,reduceCtorEq,Nat.reduceAdd,Nat.reduceSub,Nat.reduceMul,Nat.reduceEqDiff,Nat.reduceLT,Nat.reduceDiv,Nat.reduceMod,Nat.reduceLeDiff,↓reduceIte,E.e9]
  ·simp only [go_sem,↓op_app,reduceCtorEq,Nat.reduceAdd,Nat.reduceSub,Nat.reduceMul,Nat.reduceEqDiff,Nat.reduceLT,Nat.reduceDiv,Nat.reduceMod,Nat.reduceLeDiff,↓reduceIte,E.e10]
theorem step_r8 (T:TCode t) (S:SNat t dec num) {G:Heap} {i:Nat} {r:KRow} {s:Stp} {v:V} {l:List (List UInt8)} (h:SS H G i r s v l) (hs:s.d=[]):∃ G' v',SS H G' i r { s with d:=if r.d=true then l.headD [] else [] } v' (if r.d=true then l.tail else l) ∧
  ∀ (d:Nat) (kn:KE) (kx:Nat→KE) (e:Env) (x:R),ES H e→(∀ e',ES H e'→evC c26r9 fuel (evP cp t fuel (d+1)) e' G' kn kx=x)→evC c26r8 fuel (evP cp t fuel (d+1)) e G kn kx=x:=by
 have b1:∀ {id:Nat} {f:V→R},nth id (r.cells i) 4 f=f (.bool r.d):=fun {id f}=>rfl
 have zc1:=h.b1
 by_cases hb:r.d=true
 ·rw [if_pos hb,if_pos hb]
  obtain ⟨G1,v1,h1,z1⟩:=h.take (cp:=cp) (fuel:=fuel) T
  refine ⟨_,v1,h1.put (s':={ s with d:=l.headD [] }),fun d kn kx e x E hx => ?_⟩
  have z1':=fun {k:K}=>z1 d k
  have q1:=E.e8
  have q2:=E.e10
  have q3:=E.e6
  have a1:∀ {id:Nat} {f:List V→R},setAt id [tv (l.headD [])] s.cells 3 f=f ({ s with d:=l.headD [] }:Stp).cells:=fun {id f}=>setAt_one (by simp [Stp.cells])
  have a2:=h1.b2
  have a3:=h1.f.wf
  have a4:H.n+2<G1.n:=by have:=h1.n;omega
  simp only [go_sem,↓op_app,reduceCtorEq,Nat.reduceAdd,Nat.reduceSub,Nat.reduceMul,Nat.reduceEqDiff,Nat.reduceLT,Nat.reduceDiv,Nat.reduceMod,Nat.reduceLeDiff,↓reduceIte,c26r8,q1,q2,q3,b1,zc1,hb,z1',isOne_tv,a1,a2,a3,a4]
  refine hx _ ⟨?_, ?_, ?_, ?_, ?_⟩
  ·simp only [go_sem,↓op_app,reduceCtorEq,Nat.reduceAdd,Nat.reduceSub,Nat.reduceMul,Nat.reduceEqDiff,Nat.reduceLT,Nat.reduceDiv,Nat.reduceMod,Nat.reduceLeDiff,↓reduceIte,E.e4]
  ·simp only [go_sem,↓op_app,reduceCtorEq,Nat.reduceAdd,Nat.reduceSub,Nat.reduceMul,Nat.reduceEqDiff,Nat.reduceLT,Nat.reduceDiv,Nat.reduceMod,Nat.reduceLeDiff,↓reduceIte,E.e6]
  ·simp only [go_sem,↓op_app,reduceCtorEq,Nat.reduceAdd,Nat.reduceSub,Nat.reduceMul,Nat.reduceEqDiff,Nat.reduceLT,Nat.reduceDiv,Nat.reduceMod,Nat.reduceLeDiff,↓reduceIte,E.e8]
  ·simp only [go_sem,↓op_app,reduceCtorEq,Nat.reduceAdd,Nat.reduceSub,Nat.reduceMul,Nat.reduceEqDiff,Nat.reduceLT,Nat.reduceDiv,Nat.reduceMod,Nat.reduceLeDiff,↓reduceIte,E.e9]
  ·simp only [go_sem,↓op_app,reduceCtorEq,Nat.reduceAdd,Nat.reduceSub,Nat.reduceMul,Nat.reduceEqDiff,Nat.reduceLT,Nat.reduceDiv,Nat.reduceMod,Nat.reduceLeDiff,↓reduceIte,E.e10]
 ·rw [if_neg hb,if_neg hb]
  refine ⟨G,v,by rw [← hs];exact h,fun d kn kx e x E hx => ?_⟩
  have q1:=E.e6
  have hb':r.d=false:=by simpa using hb
  simp only [go_sem,↓op_app,reduceCtorEq,Nat.reduceAdd,Nat.reduceSub,Nat.reduceMul,Nat.reduceEqDiff,Nat.reduceLT,Nat.reduceDiv,Nat.reduceMod,Nat.reduceLeDiff,↓reduceIte,c26r8,q1,b1,zc1,hb']
  refine hx _ ⟨?_, ?_, ?_, ?_, ?_⟩
  ·simp only [go_sem,↓op_app,reduceCtorEq,Nat.reduceAdd,Nat.reduceSub,Nat.reduceMul,Nat.reduceEqDiff,Nat.reduceLT,Nat.reduceDiv,Nat.reduceMod,Nat.reduceLeDiff,↓reduceIte,E.e4]
  ·simp only [go_sem,↓op_app,reduceCtorEq,Nat.reduceAdd,Nat.reduceSub,Nat.reduceMul,Nat.reduceEqDiff,Nat.reduceLT,Nat.reduceDiv,Nat.reduceMod,Nat.reduceLeDiff,↓reduceIte,E.e6]
  ·simp only [go_sem,↓op_app,reduceCtorEq,Nat.reduceAdd,Nat.reduceSub,Nat.reduceMul,Nat.reduceEqDiff,Nat.reduceLT,Nat.reduceDiv,Nat.reduceMod,Nat.reduceLeDiff,↓reduceIte,E.e8]
  ·simp only [go_sem,↓op_app,reduceCtorEq,Nat.reduceAdd,Nat.reduceSub,Nat.reduceMul,Nat.reduceEqDiff,Nat.reduceLT,Nat.reduceDiv,Nat.reduceMod,Nat.reduceLeDiff,↓reduceIte,E.e9]
  ·simp only [go_sem,↓op_app,reduceCtorEq,Nat.reduceAdd,Nat.reduceSub,Nat.reduceMul,Nat.reduceEqDiff,Nat.reduceLT,Nat.reduceDiv,Nat.reduceMod,Nat.reduceLeDiff,↓reduceIte,E.e10]
theorem step_r9 (T:TCode t) (S:SNat t dec num) {G:Heap} {i:Nat} {r:KRow} {s:Stp} {v:V} {l:List (List UInt8)} (h:SS H G i r s v l) (hra:r.a<18446744073709551616) (hrb:r.b<18446744073709551616) (hsa:s.a<18446744073709551616) (hsb:s.b<18446744073709551616) (hd:s.d.length≤16777216) :
  ∃ G',Fresh H G'∧G'.get H.n = .cells (if l=[]∧mayB r s=true then s else stp0).cells ∧
  ∀ (d:Nat) (kn:KE) (kx:Nat→KE) (e:Env) (x:R),ES H e→(∀ e',ES H e'→pget ⟨.i0, .i0, .i5⟩ e'=errV (if l=[]∧mayB r s=true then 0 else 4)→kx 0 e' G'=x)→evC c26r9 fuel (evP cp t fuel (d+2)) e G kn kx=x:=by
 have b0:=h.b0
 have b1:=h.b1
 have b2:=h.b2
 have b3:=h.b3
 have hw:=h.f.wf
 have hn:=h.n
 have g1:H.n<G.n:=by omega
 obtain ⟨G2,f2,z2⟩:=may_call (cp:=cp) (fuel:=fuel) (i:=i) T S hw hra hrb hsa hsb (by omega)
 have hw2:=f2.wf
 have hn2:=f2.n
 have g2:H.n<G2.n:=by omega
 have a1:∀ {id:Nat} {x:R},allOne id s.cells x=x:=fun {id x}=>rfl
 have e0:∀ {id:Nat} {f:List V→R},dropN id s.cells 0 f=f s.cells:=fun {id f}=>rfl
 have e1:∀ {id:Nat} {f:List V→R},takeN id s.cells 4 f=f s.cells:=fun {id f}=>rfl
 have e2:∀ {id:Nat} {f:List V→R},dropN id (r.cells i) 0 f=f (r.cells i):=fun {id f}=>rfl
 have e3:∀ {id:Nat} {f:List V→R},takeN id (r.cells i) 5 f=f (r.cells i):=fun {id f}=>rfl
 have e4:∀ {id:Nat} {x:R},allOne id (r.cells i) x=x:=fun {id x}=>rfl
 have e5:∀ {id:Nat} {f:List V→R},setAt id s.cells stp0.cells 0 f=f s.cells:=fun {id f}=>rfl
 have e6:∀ {id:Nat} {f:List V→R},setAt id [.int 3 0, .int 3 0, .int 3 0, .str 0 0] stp0.cells 0 f=f stp0.cells:=fun {id f}=>rfl
 have e7:s.cells.length=4:=rfl
 have z2':=fun {d:Nat} {k:K}=>z2 d k
 have t1:List.take 4 s.cells=s.cells:=rfl
 cases l with
 | nil=>
  have zc2:G2.get (H.n+2) = .cells s.cells:=(f2.same _ (by omega)).trans b2
  have zc0:G2.get H.n = .cells stp0.cells:=(f2.same _ (by omega)).trans b0
  have hv:v = .nils ∨ ∃ b o c s,v = .slice b o 0 c s:=by
   rcases h.ws with ⟨h1,_⟩ | ⟨h1,_⟩
   ·exact h1
   ·exact absurd rfl h1
  cases hm:mayB r s with
  | true=>
   refine ⟨G2.put H.n (.cells s.cells),(h.f.trans f2).put (Nat.le_refl _) g2, ?_,fun d kn kx e x E hx => ?_⟩
   ·rw [Heap.get_put hw2 g2,if_pos rfl,if_pos ⟨rfl,rfl⟩]
   ·have q1:=E.e4
    have q2:=E.e6
    have q3:=E.e8
    have q4:=E.e9
    rw [hm] at z2'
    rw [if_pos ⟨rfl,rfl⟩] at hx
    rcases hv with rfl | ⟨_,_,_,_,rfl⟩
    ·simp only [go_sem,↓op_app,reduceCtorEq,Nat.reduceAdd,Nat.reduceSub,Nat.reduceMul,Nat.reduceEqDiff,Nat.reduceLT,Nat.reduceDiv,Nat.reduceMod,Nat.reduceLeDiff,↓reduceIte,c26r9,c26r10,c26r11,q1,q2,q3,q4,b0,b1,b2,b3,z2',hw,hw2,g1,g2,a1,e0,e1,e2,e3,e4,e5,e6,e7,zc2,zc0,t1]
     refine hx _ ?_ ?_
     ·exact ⟨by simp only [go_sem,↓op_app,reduceCtorEq,Nat.reduceAdd,Nat.reduceSub,Nat.reduceMul,Nat.reduceEqDiff,Nat.reduceLT,Nat.reduceDiv,Nat.reduceMod,Nat.reduceLeDiff,↓reduceIte,E.e4],by simp only [go_sem,↓op_app,reduceCtorEq,Nat.reduceAdd,Nat.reduceSub,Nat.reduceMul,Nat.reduceEqDiff,Nat.reduceLT,Nat.reduceDiv,Nat.reduceMod,Nat.reduceLeDiff,↓reduceIte,E.e6],by simp only [go_sem,↓op_app,reduceCtorEq,Nat.reduceAdd,Nat.reduceSub,Nat.reduceMul,Nat.reduceEqDiff,Nat.reduceLT,Nat.reduceDiv,Nat.reduceMod,Nat.reduceLeDiff,↓reduceIte,E.e8],by simp only [go_sem,↓op_app,reduceCtorEq,Nat.reduceAdd,Nat.reduceSub,Nat.reduceMul,Nat.reduceEqDiff,Nat.reduceLT,Nat.reduceDiv,Nat.reduceMod,Nat.reduceLeDiff,↓reduceIte,E.e9],by simp only [go_sem,↓op_app,reduceCtorEq,Nat.reduceAdd,Nat.reduceSub,Nat.reduceMul,Nat.reduceEqDiff,Nat.reduceLT,Nat.reduceDiv,Nat.reduceMod,Nat.reduceLeDiff,↓reduceIte,E.e10]⟩
     ·simp only [go_sem,reduceCtorEq,↓reduceIte];rfl
    ·simp only [go_sem,↓op_app,reduceCtorEq,Nat.reduceAdd,Nat.reduceSub,Nat.reduceMul,Nat.reduceEqDiff,Nat.reduceLT,Nat.reduceDiv,Nat.reduceMod,Nat.reduceLeDiff,↓reduceIte,c26r9,c26r10,c26r11,q1,q2,q3,q4,b0,b1,b2,b3,z2',hw,hw2,g1,g2,a1,e0,e1,e2,e3,e4,e5,e6,e7,zc2,zc0,t1]
     refine hx _ ?_ ?_
     ·exact ⟨by simp only [go_sem,↓op_app,reduceCtorEq,Nat.reduceAdd,Nat.reduceSub,Nat.reduceMul,Nat.reduceEqDiff,Nat.reduceLT,Nat.reduceDiv,Nat.reduceMod,Nat.reduceLeDiff,↓reduceIte,E.e4],by simp only [go_sem,↓op_app,reduceCtorEq,Nat.reduceAdd,Nat.reduceSub,Nat.reduceMul,Nat.reduceEqDiff,Nat.reduceLT,Nat.reduceDiv,Nat.reduceMod,Nat.reduceLeDiff,↓reduceIte,E.e6],by simp only [go_sem,↓op_app,reduceCtorEq,Nat.reduceAdd,Nat.reduceSub,Nat.reduceMul,Nat.reduceEqDiff,Nat.reduceLT,Nat.reduceDiv,Nat.reduceMod,Nat.reduceLeDiff,↓reduceIte,E.e8],by simp only [go_sem,↓op_app,reduceCtorEq,Nat.reduceAdd,Nat.reduceSub,Nat.reduceMul,Nat.reduceEqDiff,Nat.reduceLT,Nat.reduceDiv,Nat.reduceMod,Nat.reduceLeDiff,↓reduceIte,E.e9],by simp only [go_sem,↓op_app,reduceCtorEq,Nat.reduceAdd,Nat.reduceSub,Nat.reduceMul,Nat.reduceEqDiff,Nat.reduceLT,Nat.reduceDiv,Nat.reduceMod,Nat.reduceLeDiff,↓reduceIte,E.e10]⟩
     ·simp only [go_sem,reduceCtorEq,↓reduceIte];rfl
  | false=>
   refine ⟨G2.put H.n (.cells stp0.cells),(h.f.trans f2).put (Nat.le_refl _) g2, ?_,fun d kn kx e x E hx => ?_⟩
   ·rw [Heap.get_put hw2 g2,if_pos rfl,if_neg (by simp)]
   ·have q1:=E.e4
    have q2:=E.e6
    have q3:=E.e8
    have q4:=E.e9
    rw [hm] at z2'
    rw [if_neg (by simp)] at hx
    rcases hv with rfl | ⟨_,_,_,_,rfl⟩
    ·simp only [go_sem,↓op_app,reduceCtorEq,Nat.reduceAdd,Nat.reduceSub,Nat.reduceMul,Nat.reduceEqDiff,Nat.reduceLT,Nat.reduceDiv,Nat.reduceMod,Nat.reduceLeDiff,↓reduceIte,c26r9,c26r10,c26r11,q1,q2,q3,q4,b0,b1,b2,b3,z2',hw,hw2,g1,g2,a1,e0,e1,e2,e3,e4,e5,e6,e7,zc2,zc0,t1]
     refine hx _ ?_ ?_
     ·exact ⟨by simp only [go_sem,↓op_app,reduceCtorEq,Nat.reduceAdd,Nat.reduceSub,Nat.reduceMul,Nat.reduceEqDiff,Nat.reduceLT,Nat.reduceDiv,Nat.reduceMod,Nat.reduceLeDiff,↓reduceIte,E.e4],by simp only [go_sem,↓op_app,reduceCtorEq,Nat.reduceAdd,Nat.reduceSub,Nat.reduceMul,Nat.reduceEqDiff,Nat.reduceLT,Nat.reduceDiv,Nat.reduceMod,Nat.reduceLeDiff,↓reduceIte,E.e6],by simp only [go_sem,↓op_app,reduceCtorEq,Nat.reduceAdd,Nat.reduceSub,Nat.reduceMul,Nat.reduceEqDiff,Nat.reduceLT,Nat.reduceDiv,Nat.reduceMod,Nat.reduceLeDiff,↓reduceIte,E.e8],by simp only [go_sem,↓op_app,reduceCtorEq,Nat.reduceAdd,Nat.reduceSub,Nat.reduceMul,Nat.reduceEqDiff,Nat.reduceLT,Nat.reduceDiv,Nat.reduceMod,Nat.reduceLeDiff,↓reduceIte,E.e9],by simp only [go_sem,↓op_app,reduceCtorEq,Nat.reduceAdd,Nat.reduceSub,Nat.reduceMul,Nat.reduceEqDiff,Nat.reduceLT,Nat.reduceDiv,Nat.reduceMod,Nat.reduceLeDiff,↓reduceIte,E.e10]⟩
     ·simp only [go_sem,reduceCtorEq,↓reduceIte];rfl
    ·simp only [go_sem,↓op_app,reduceCtorEq,Nat.reduceAdd,Nat.reduceSub,Nat.reduceMul,Nat.reduceEqDiff,Nat.reduceLT,Nat.reduceDiv,Nat.reduceMod,Nat.reduceLeDiff,↓reduceIte,c26r9,c26r10,c26r11,q1,q2,q3,q4,b0,b1,b2,b3,z2',hw,hw2,g1,g2,a1,e0,e1,e2,e3,e4,e5,e6,e7,zc2,zc0,t1]
     refine hx _ ?_ ?_
     ·exact ⟨by simp only [go_sem,↓op_app,reduceCtorEq,Nat.reduceAdd,Nat.reduceSub,Nat.reduceMul,Nat.reduceEqDiff,Nat.reduceLT,Nat.reduceDiv,Nat.reduceMod,Nat.reduceLeDiff,↓reduceIte,E.e4],by simp only [go_sem,↓op_app,reduceCtorEq,Nat.reduceAdd,Nat.reduceSub,Nat.reduceMul,Nat.reduceEqDiff,Nat.reduceLT,Nat.reduceDiv,Nat.reduceMod,Nat.reduceLeDiff,↓reduceIte,E.e6],by simp only [go_sem,↓op_app,reduceCtorEq,Nat.reduceAdd,Nat.reduceSub,Nat.reduceMul,Nat.reduceEqDiff,Nat.reduceLT,Nat.reduceDiv,Nat.reduceMod,Nat.reduceLeDiff,↓reduceIte,E.e8],by simp only [go_sem,↓op_app,reduceCtorEq,Nat.reduceAdd,Nat.reduceSub,Nat.reduceMul,Nat.reduceEqDiff,Nat.reduceLT,Nat.reduceDiv,Nat.reduceMod,Nat.reduceLeDiff,↓reduceIte,E.e9],by simp only [go_sem,↓op_app,reduceCtorEq,Nat.reduceAdd,Nat.reduceSub,Nat.reduceMul,Nat.reduceEqDiff,Nat.reduceLT,Nat.reduceDiv,Nat.reduceMod,Nat.reduceLeDiff,↓reduceIte,E.e10]⟩
     ·simp only [go_sem,reduceCtorEq,↓reduceIte];rfl
 | cons y l=>
  refine ⟨G.put H.n (.cells stp0.cells),h.f.put (Nat.le_refl _) g1, ?_,fun d kn kx e x E hx => ?_⟩
  ·rw [Heap.get_put hw g1,if_pos rfl,if_neg (by simp)]
  ·have q1:=E.e4
   have q2:=E.e6
   have q3:=E.e8
   have q4:=E.e9
   rw [if_neg (by simp)] at hx
   rcases h.ws with ⟨_,h1⟩ | ⟨_,b,o,c,sz,row,rfl,_⟩
   ·cases h1
   ·have hl:=h.len
    simp only [List.length_cons] at hl b3
    have l1:l.length+1<9223372036854775808:=by omega
    have l2:nn (l.length+1):=l1
    have l3:0<l.length+1:=by omega
    simp only [go_sem,↓op_app,reduceCtorEq,Nat.reduceAdd,Nat.reduceSub,Nat.reduceMul,Nat.reduceEqDiff,Nat.reduceLT,Nat.reduceDiv,Nat.reduceMod,Nat.reduceLeDiff,↓reduceIte,c26r9,c26r10,c26r11,q1,q2,q3,q4,b0,b1,b2,b3,hw,g1,a1,e6,l1,l2,l3]
    refine hx _ ?_ ?_
    ·exact ⟨by simp only [go_sem,↓op_app,reduceCtorEq,Nat.reduceAdd,Nat.reduceSub,Nat.reduceMul,Nat.reduceEqDiff,Nat.reduceLT,Nat.reduceDiv,Nat.reduceMod,Nat.reduceLeDiff,↓reduceIte,E.e4],by simp only [go_sem,↓op_app,reduceCtorEq,Nat.reduceAdd,Nat.reduceSub,Nat.reduceMul,Nat.reduceEqDiff,Nat.reduceLT,Nat.reduceDiv,Nat.reduceMod,Nat.reduceLeDiff,↓reduceIte,E.e6],by simp only [go_sem,↓op_app,reduceCtorEq,Nat.reduceAdd,Nat.reduceSub,Nat.reduceMul,Nat.reduceEqDiff,Nat.reduceLT,Nat.reduceDiv,Nat.reduceMod,Nat.reduceLeDiff,↓reduceIte,E.e8],by simp only [go_sem,↓op_app,reduceCtorEq,Nat.reduceAdd,Nat.reduceSub,Nat.reduceMul,Nat.reduceEqDiff,Nat.reduceLT,Nat.reduceDiv,Nat.reduceMod,Nat.reduceLeDiff,↓reduceIte,E.e9],by simp only [go_sem,↓op_app,reduceCtorEq,Nat.reduceAdd,Nat.reduceSub,Nat.reduceMul,Nat.reduceEqDiff,Nat.reduceLT,Nat.reduceDiv,Nat.reduceMod,Nat.reduceLeDiff,↓reduceIte,E.e10]⟩
    ·simp only [go_sem,reduceCtorEq,↓reduceIte];rfl
end
end Go.Ev
end
section
namespace Go.Ev
section
variable {k:K} {H:Heap} {e:Env}
theorem retF_At {s s':Slot} {n:Nat}:retF [.cellA s n, .tmp s'] k e H=vPtr 0 (pget s e) fun b o=>loadN 0 H b o n fun l=>k (.tup [.agg l,pget s' e]) H:=by
 show getS s e (fun v=>vPtr 0 v fun b o=>loadN 0 H b o n fun l=>getS s' e fun v'=>k (.tup [.agg l,v']) H)=_
 simp only [getS_eq]
theorem retF_tA {s s':Slot} {n:Nat}:retF [.tmp s', .cellA s n] k e H=vPtr 0 (pget s e) fun b o=>loadN 0 H b o n fun l=>k (.tup [pget s' e, .agg l]) H:=by
 show getS s' e (fun v'=>getS s e (fun v=>vPtr 0 v fun b o=>loadN 0 H b o n fun l=>k (.tup [v', .agg l]) H))=_
 simp only [getS_eq]
theorem retF_11 {s s':Slot}:retF [.cell1 s, .cell1 s'] k e H=vPtr 0 (pget s e) fun b o=>loadC 0 H b o fun v=>vPtr 0 (pget s' e) fun b o=>loadC 0 H b o fun v'=>k (.tup [v,v']) H:=by
 show getS s e (fun v=>vPtr 0 v fun b o=>loadC 0 H b o fun v=>getS s' e fun v'=>vPtr 0 v' fun b o=>loadC 0 H b o fun v'=>k (.tup [v,v']) H)=_
 simp only [getS_eq]
end
section
variable {t:Nat→Option FnE} {cp:RC→CodeE} {fuel:Nat} {H:Heap} {dec:List UInt8→Nat × Nat} {num:List UInt8→Nat}
theorem kMap_get {w:List UInt8}:lkT (kMap 12) w=(kindB w).map fun p => .agg (p.2.cells p.1):=lkT_map kindsT 12 0 w (by decide)
theorem step_tail (T:TCode t) (S:SNat t dec num) {i:Nat} {r:KRow} {w0:List UInt8} {l:List (List UInt8)} {v:V} {G:Heap} (hk:kindB w0=some (i,r)) (h:SS H G i r ⟨i,0,0,[]⟩ v l) :
  ∃ G',Fresh H G'∧G'.get H.n = .cells (stepP num (w0 :: l)).1.cells ∧ ∀ (d:Nat) (kn:KE) (kx:Nat→KE) (e:Env) (x:R),ES H e→(∀ e',ES H e'→pget ⟨.i0, .i0, .i5⟩ e'=errV (stepP num (w0 :: l)).2→kx 0 e' G'=x)→evC c26r6 fuel (evP cp t fuel (d+2)) e G kn kx=x:=by
 have hr:=(findK_mem kindsT 0 w0 i r hk).1
 obtain ⟨k1,k2⟩:=kinds_ok r hr
 have ra:r.a<18446744073709551616:=by omega
 have rb:r.b<18446744073709551616:=by
  rcases k2 with h | h
  ·rw [h];decide
  ·omega
 obtain ⟨G1,v1,h1,z1⟩:=step_r6 (cp:=cp) (fuel:=fuel) T S h
 obtain ⟨G2,v2,h2,z2⟩:=step_r7 (cp:=cp) (fuel:=fuel) T S h1 rfl
 obtain ⟨G3,v3,h3,z3⟩:=step_r8 (cp:=cp) (fuel:=fuel) T S h2 rfl
 obtain ⟨G4,f4,b4,z4⟩:=step_r9 (cp:=cp) (fuel:=fuel) T S h3 ra rb (S.nok.lt _) (by show (if r.b=neg1 then 0 else num _)<_;split;omega;exact S.nok.lt _) (by
  show (if r.d=true then _ else []).length≤_
  split
  ·exact h2.head
  ·simp)
 have he:stepP num (w0 :: l)=if (if r.d=true then (if r.b=neg1 then l.tail else l.tail.tail).tail else (if r.b=neg1 then l.tail else l.tail.tail))=[]∧mayB r ⟨i,num (l.headD []),if r.b=neg1 then 0 else num (l.tail.headD []),if r.d=true then (if r.b=neg1 then l.tail else l.tail.tail).headD [] else []⟩=true then (⟨i,num (l.headD []),if r.b=neg1 then 0 else num (l.tail.headD []),if r.d=true then (if r.b=neg1 then l.tail else l.tail.tail).headD [] else []⟩,0) else (stp0,4):=by
  unfold stepP
  rw [show kindB ((w0 :: l).headD [])=some (i,r) from hk]
  rfl
 refine ⟨G4,f4, ?_,fun d kn kx e x E hx => ?_⟩
 ·rw [b4,he]
  by_cases hc:(if r.d=true then (if r.b=neg1 then l.tail else l.tail.tail).tail else (if r.b=neg1 then l.tail else l.tail.tail))=[]∧mayB r ⟨i,num (l.headD []),if r.b=neg1 then 0 else num (l.tail.headD []),if r.d=true then (if r.b=neg1 then l.tail else l.tail.tail).headD [] else []⟩=true
  ·rw [if_pos hc,if_pos hc]
  ·rw [if_neg hc,if_neg hc]
 ·refine z1 (d+1) kn kx e x E fun e1 E1=>z2 (d+1) kn kx e1 x E1 fun e2 E2=>z3 (d+1) kn kx e2 x E2 fun e3 E3=>z4 d kn kx e3 x E3 fun e4 E4 h4=>hx e4 E4 ?_
  rw [h4,he]
  by_cases hc:(if r.d=true then (if r.b=neg1 then l.tail else l.tail.tail).tail else (if r.b=neg1 then l.tail else l.tail.tail))=[]∧mayB r ⟨i,num (l.headD []),if r.b=neg1 then 0 else num (l.tail.headD []),if r.d=true then (if r.b=neg1 then l.tail else l.tail.tail).headD [] else []⟩=true
  ·rw [if_pos hc,if_pos hc]
  ·rw [if_neg hc,if_neg hc]
theorem step_call (T:TCode t) (S:SNat t dec num) (hw:H.wf) {m:Nat} (hm:H.get m = .map (encT (kMap 12))) (hmn:m<H.n) {v:V} {w0:List UInt8} {l:List (List UInt8)} (hv:WS H v (w0 :: l)) (hl:l.length<999999) (hx:∀ w ∈ w0 :: l,w.length≤16777216) :
  ∃ G,Fresh H G ∧ ∀ (d:Nat) (k:K),callP (evP cp t fuel (d+3)) (.func 52 []) [.map m,v] H k=k (.tup [.agg (stepP num (w0 :: l)).1.cells,errV (stepP num (w0 :: l)).2]) G:=by
 rcases hv with ⟨_,h⟩ | ⟨_,b,o,c,s,row,rfl,g2,g3,g4,g5⟩
 ·cases h
 have e4:∀ {id:Nat} {f:V→R},nth id row o f=f (tv w0):=fun {id f}=>nth_get (by simpa using g5 0 w0 rfl)
 have e5:0<l.length+1:=by omega
 have e6:∀ {id:Nat} {f:V→R} {z:R},lookL id true (encT (kMap 12)) (tv w0) f z=optOn ((kindB w0).map fun p => .agg (p.2.cells p.1)) f z:=fun {id f z}=>by rw [lookL_T,kMap_get]
 generalize hG1:H.new (.cells [.int 3 0, .int 3 0, .int 3 0, .str 0 0])=G1
 have f1:Fresh H G1:=by rw [← hG1];exact Fresh.new hw
 have g1n:G1.n=H.n+1:=by rw [← hG1,Heap.n_new]
 have g1b:G1.get H.n = .cells [.int 3 0, .int 3 0, .int 3 0, .str 0 0]:=by rw [← hG1,Heap.get_new hw,if_pos rfl]
 have g1r:G1.get b = .cells row:=(f1.same b g4).trans g3
 have g1m:G1.get m = .map (encT (kMap 12)):=(f1.same m hmn).trans hm
 have hw1:=f1.wf
 have hx':∀ w ∈ l,w.length≤16777216:=fun w hw=>hx w (List.mem_cons_of_mem _ hw)
 have e7:H.n+1<H.n+1+1:=by omega
 have e8:H.n<H.n+1+1:=by omega
 have t4:∀ {q:Stp},List.take 4 q.cells=q.cells:=fun {q}=>rfl
 have t5:∀ {q:Stp} {id:Nat} {x:R},allOne id q.cells x=x:=fun {q id x}=>rfl
 have t6:∀ {q:Stp} {id:Nat} {f:List V→R},dropN id q.cells 0 f=f q.cells:=fun {q id f}=>rfl
 have t7:∀ {q:Stp} {id:Nat} {f:List V→R},takeN id q.cells 4 f=f q.cells:=fun {q id f}=>rfl
 cases hk:kindB w0 with
 | none=>
  have hs:stepP num (w0 :: l)=(stp0,15):=by
   unfold stepP
   rw [show kindB ((w0 :: l).headD [])=none from hk]
  generalize hG2:G1.new (.cells [.int 3 0, .str 0 0, .int 3 0, .int 3 0, .bool false])=G2
  have f2:Fresh H G2:=by rw [← hG2];exact f1.trans (Fresh.new hw1)
  have g2n:G2.n=H.n+1+1:=by rw [← hG2,Heap.n_new,g1n]
  have g2c:G2.get (H.n+1) = .cells [.int 3 0, .str 0 0, .int 3 0, .int 3 0, .bool false]:=by rw [← hG2,Heap.get_new hw1,if_pos g1n.symm]
  have hw2:=f2.wf
  have g2b:G2.get H.n = .cells [.int 3 0, .int 3 0, .int 3 0, .str 0 0]:=by rw [← hG2,Heap.get_new hw1,if_neg (by omega)];exact g1b
  have e9:∀ {id:Nat} {f:List V→R},setAt id [.int 3 0, .str 0 0, .int 3 0, .int 3 0, .bool false] [.int 3 0, .str 0 0, .int 3 0, .int 3 0, .bool false] 0 f=f [.int 3 0, .str 0 0, .int 3 0, .int 3 0, .bool false]:=fun {id f}=>rfl
  have e10:∀ {id:Nat} {f:List V→R},setAt id [.int 3 0, .int 3 0, .int 3 0, .str 0 0] [.int 3 0, .int 3 0, .int 3 0, .str 0 0] 0 f=f [.int 3 0, .int 3 0, .int 3 0, .str 0 0]:=fun {id f}=>rfl
  generalize hG3:G2.put (H.n+1) (.cells [.int 3 0, .str 0 0, .int 3 0, .int 3 0, .bool false])=G3
  have f3:Fresh H G3:=by rw [← hG3];exact f2.put (by omega) (by omega)
  have hw3:=f3.wf
  have g3n:G3.n=H.n+1+1:=by rw [← hG3,Heap.n_put,g2n]
  have g3b:G3.get H.n = .cells [.int 3 0, .int 3 0, .int 3 0, .str 0 0]:=by rw [← hG3,Heap.get_put hw2 (by omega),if_neg (by omega)];exact g2b
  refine ⟨G3.put H.n (.cells [.int 3 0, .int 3 0, .int 3 0, .str 0 0]),f3.put (Nat.le_refl _) (by omega),fun d k => ?_⟩
  rw [call_entry T.k26 rfl rfl,hs]
  simp only [go_sem,↓op_app,reduceCtorEq,Nat.reduceAdd,Nat.reduceSub,Nat.reduceMul,Nat.reduceEqDiff,Nat.reduceLT,Nat.reduceDiv,Nat.reduceMod,Nat.reduceLeDiff,↓reduceIte,c26,hw,hG1,hw1,g1n]
  simp only [go_sem,↓op_app,reduceCtorEq,Nat.reduceAdd,Nat.reduceSub,Nat.reduceMul,Nat.reduceEqDiff,Nat.reduceLT,Nat.reduceDiv,Nat.reduceMod,Nat.reduceLeDiff,↓reduceIte,c26r1,g1r,g1m,e4,e5,e6,hk,isOne_tv,hG2,hw1,g1n,Option.map_none,g2c,hw2,e7,g2n,e9,hG3]
  simp only [go_sem,↓op_app,reduceCtorEq,Nat.reduceAdd,Nat.reduceSub,Nat.reduceMul,Nat.reduceEqDiff,Nat.reduceLT,Nat.reduceDiv,Nat.reduceMod,Nat.reduceLeDiff,↓reduceIte,c26r2,g3b,hw3,e8,g3n,e10,retF_At]
  rfl
 | some p=>
  obtain ⟨i,r⟩:=p
  generalize hG2:G1.new (.cells [.int 3 0, .str 0 0, .int 3 0, .int 3 0, .bool false])=G2
  have f2:Fresh H G2:=by rw [← hG2];exact f1.trans (Fresh.new hw1)
  have g2n:G2.n=H.n+1+1:=by rw [← hG2,Heap.n_new,g1n]
  have g2c:G2.get (H.n+1) = .cells [.int 3 0, .str 0 0, .int 3 0, .int 3 0, .bool false]:=by rw [← hG2,Heap.get_new hw1,if_pos g1n.symm]
  have hw2:=f2.wf
  have g2b:G2.get H.n = .cells [.int 3 0, .int 3 0, .int 3 0, .str 0 0]:=by rw [← hG2,Heap.get_new hw1,if_neg (by omega)];exact g1b
  have e9:∀ {id:Nat} {f:List V→R},setAt id (r.cells i) [.int 3 0, .str 0 0, .int 3 0, .int 3 0, .bool false] 0 f=f (r.cells i):=fun {id f}=>rfl
  have e11:∀ {id:Nat} {x:R},allOne id (r.cells i) x=x:=fun {id x}=>rfl
  have e12:(r.cells i).length=5:=rfl
  have e13:∀ {id:Nat} {f:V→R},nth id (r.cells i) 0 f=f (.int 3 i):=fun {id f}=>rfl
  generalize hG3:G2.put (H.n+1) (.cells (r.cells i))=G3
  have f3:Fresh H G3:=by rw [← hG3];exact f2.put (by omega) (by omega)
  have hw3:=f3.wf
  have g3n:G3.n=H.n+1+1:=by rw [← hG3,Heap.n_put,g2n]
  have g3b:G3.get H.n = .cells [.int 3 0, .int 3 0, .int 3 0, .str 0 0]:=by rw [← hG3,Heap.get_put hw2 (by omega),if_neg (by omega)];exact g2b
  have g3c:G3.get (H.n+1) = .cells (r.cells i):=by rw [← hG3,Heap.get_put hw2 (by omega),if_pos rfl]
  generalize hG4:G3.new (.cells [.int 3 0, .int 3 0, .int 3 0, .str 0 0])=G4
  have f4:Fresh H G4:=by rw [← hG4];exact f3.trans (Fresh.new hw3)
  have hw4:=f4.wf
  have g4n:G4.n=H.n+1+1+1:=by rw [← hG4,Heap.n_new,g3n]
  have g4d:G4.get (H.n+1+1) = .cells [.int 3 0, .int 3 0, .int 3 0, .str 0 0]:=by rw [← hG4,Heap.get_new hw3,if_pos g3n.symm]
  have g4o:∀ j,j<H.n+1+1→G4.get j=G3.get j:=fun j hj=>by rw [← hG4,Heap.get_new hw3,if_neg (by omega)]
  have e14:H.n+1+1<H.n+1+1+1:=by omega
  have e15:∀ {id:Nat} {f:List V→R},setAt id [.int 3 i, .int 3 0, .int 3 0, .str 0 0] [.int 3 0, .int 3 0, .int 3 0, .str 0 0] 0 f=f [.int 3 i, .int 3 0, .int 3 0, .str 0 0]:=fun {id f}=>rfl
  generalize hG5:G4.put (H.n+1+1) (.cells [.int 3 i, .int 3 0, .int 3 0, .str 0 0])=G5
  have f5:Fresh H G5:=by rw [← hG5];exact f4.put (by omega) (by omega)
  have hw5:=f5.wf
  have g5n:G5.n=H.n+1+1+1:=by rw [← hG5,Heap.n_put,g4n]
  have g5d:G5.get (H.n+1+1) = .cells [.int 3 i, .int 3 0, .int 3 0, .str 0 0]:=by rw [← hG5,Heap.get_put hw4 (by omega),if_pos rfl]
  have g5o:∀ j,j<H.n+1+1→G5.get j=G3.get j:=fun j hj=>by rw [← hG5,Heap.get_put hw4 (by omega),if_neg (by omega)];exact g4o j hj
  have tail:∀ v',WS H v' l→SS H ((G5.new (.cells [.nils])).put (H.n+1+1+1) (.cells [v'])) i r ⟨i,0,0,[]⟩ v' l:=fun v' hv'=>by
   have f6:Fresh H (G5.new (.cells [.nils])):=f5.trans (Fresh.new hw5)
   have e16:H.n+1+1+1 < (G5.new (.cells [.nils])).n:=by rw [Heap.n_new,g5n];omega
   have o:∀ j,j<H.n+1+1+1→((G5.new (.cells [.nils])).put (H.n+1+1+1) (.cells [v'])).get j=G5.get j:=fun j hj=>by
    rw [Heap.get_put f6.wf e16,if_neg (by omega),Heap.get_new hw5,if_neg (by omega)]
   refine ⟨f6.put (by omega) e16,by rw [Heap.n_put,Heap.n_new,g5n];omega, ?_, ?_, ?_, ?_,hv',by omega,hx'⟩
   ·rw [o _ (by omega),g5o _ (by omega)];exact g3b
   ·rw [o _ (by omega),g5o _ (by omega)];exact g3c
   ·rw [o _ (by omega)];exact g5d
   ·show ((G5.new (.cells [.nils])).put (H.n+1+1+1) (.cells [v'])).get (H.n+1+1+1)=_
    rw [Heap.get_put f6.wf e16,if_pos rfl]
  have l1:1≤l.length+1:=by omega
  have run:∀ v',WS H v' l→(∀ (d:Nat) (kn:KE) (kx:Nat→KE) (e:Env) (x:R),pget ⟨.i0, .i0, .i1⟩ e = .slice b o (l.length+1) c s→pget ⟨.i0, .i0, .i4⟩ e = .ptr H.n 0→pget ⟨.i0, .i0, .i6⟩ e = .ptr (H.n+1) 0→pget ⟨.i0, .i1, .i0⟩ e = .ptr (H.n+2) 0 →
    (∀ e',ES H e'→evC c26r6 fuel (evP cp t fuel (d+2)) e' ((G5.new (.cells [.nils])).put (H.n+1+1+1) (.cells [v'])) kn kx=x)→evC c26r4 fuel (evP cp t fuel (d+2)) e G5 kn kx=x) →
   ∃ G,Fresh H G ∧ ∀ (d:Nat) (k:K),callP (evP cp t fuel (d+3)) (.func 52 []) [.map m, .slice b o (l.length+1) c s] H k=k (.tup [.agg (stepP num (w0 :: l)).1.cells,errV (stepP num (w0 :: l)).2]) G:=fun v' hv' h4=>by
   obtain ⟨G',f',b',z'⟩:=step_tail (cp:=cp) (fuel:=fuel) T S hk (tail v' hv')
   refine ⟨G',f',fun d k => ?_⟩
   rw [call_entry T.k26 rfl rfl]
   simp only [go_sem,↓op_app,reduceCtorEq,Nat.reduceAdd,Nat.reduceSub,Nat.reduceMul,Nat.reduceEqDiff,Nat.reduceLT,Nat.reduceDiv,Nat.reduceMod,Nat.reduceLeDiff,↓reduceIte,c26,hw,hG1,hw1,g1n]
   simp only [go_sem,↓op_app,reduceCtorEq,Nat.reduceAdd,Nat.reduceSub,Nat.reduceMul,Nat.reduceEqDiff,Nat.reduceLT,Nat.reduceDiv,Nat.reduceMod,Nat.reduceLeDiff,↓reduceIte,c26r1,g1r,g1m,e4,e5,e6,hk,isOne_tv,hG2,hw1,g1n,Option.map_some,g2c,hw2,e7,g2n,e9,e11,e12,hG3]
   simp only [go_sem,↓op_app,reduceCtorEq,Nat.reduceAdd,Nat.reduceSub,Nat.reduceMul,Nat.reduceEqDiff,Nat.reduceLT,Nat.reduceDiv,Nat.reduceMod,Nat.reduceLeDiff,↓reduceIte,c26r2,c26r3,g3c,hw3,g3n,e13,hG4,hw4,g4n,g4d,e14,e15,hG5]
   refine h4 d _ _ _ _ (by simp only [go_sem,reduceCtorEq,↓reduceIte]) (by simp only [go_sem,reduceCtorEq,↓reduceIte]) (by simp only [go_sem,reduceCtorEq,↓reduceIte]) (by simp only [go_sem,reduceCtorEq,↓reduceIte]) fun e' E'=>z' d _ _ e' _ E' fun e2 E2 h5 => ?_
   have q1:=E2.e4
   simp only [go_sem,↓op_app,reduceCtorEq,Nat.reduceAdd,Nat.reduceSub,Nat.reduceMul,Nat.reduceEqDiff,Nat.reduceLT,Nat.reduceDiv,Nat.reduceMod,Nat.reduceLeDiff,↓reduceIte,retF_At,q1,b',h5,t4,t5,t6,t7]
  have e16:H.n+1+1+1<H.n+1+1+1+1:=by omega
  rcases WS.sl g2 g3 g4 g5 with ⟨a1,a2,a3⟩ | ⟨a1,a2,a4,a3⟩ | ⟨a1,a2,a4,a3⟩
  ·subst a1
   subst a2
   refine run _ a3 fun d kn kx e x q1 q4 q6 q8 hx => ?_
   simp only [go_sem,↓op_app,reduceCtorEq,Nat.reduceAdd,Nat.reduceSub,Nat.reduceMul,Nat.reduceEqDiff,Nat.reduceLT,Nat.reduceDiv,Nat.reduceMod,Nat.reduceLeDiff,↓reduceIte,c26r4,c26r5,q1,l1,hw5,g5n,e16]
   refine hx _ ⟨?_, ?_, ?_, ?_, ?_⟩ <;> simp only [go_sem,reduceCtorEq,↓reduceIte,q4,q6,q8]
  ·have a5:=eq_true a4
   refine run _ a3 fun d kn kx e x q1 q4 q6 q8 hx => ?_
   simp only [go_sem,↓op_app,reduceCtorEq,Nat.reduceAdd,Nat.reduceSub,Nat.reduceMul,Nat.reduceEqDiff,Nat.reduceLT,Nat.reduceDiv,Nat.reduceMod,Nat.reduceLeDiff,↓reduceIte,c26r4,c26r5,q1,l1,a1,a2,a5,hw5,g5n,e16]
   refine hx _ ⟨?_, ?_, ?_, ?_, ?_⟩ <;> simp only [go_sem,reduceCtorEq,↓reduceIte,q4,q6,q8]
  ·refine run _ a3 fun d kn kx e x q1 q4 q6 q8 hx => ?_
   simp only [go_sem,↓op_app,reduceCtorEq,Nat.reduceAdd,Nat.reduceSub,Nat.reduceMul,Nat.reduceEqDiff,Nat.reduceLT,Nat.reduceDiv,Nat.reduceMod,Nat.reduceLeDiff,↓reduceIte,c26r4,c26r5,q1,l1,a1,a2,a4,hw5,g5n,e16]
   refine hx _ ⟨?_, ?_, ?_, ?_, ?_⟩ <;> simp only [go_sem,reduceCtorEq,↓reduceIte,q4,q6,q8]
end
end Go.Ev
end
section
namespace Go.Ev
def blankB (b:UInt8):Bool:=decide (b.toNat=32) || decide (b.toNat=9)
def fieldsGo:List UInt8→List UInt8→List (List UInt8)
 | [],cur=>if cur=[] then [] else [cur]
 | b :: l,cur=>if blankB b=true then (if cur=[] then fieldsGo l [] else cur :: fieldsGo l []) else fieldsGo l (cur ++ [b])
theorem fieldsGo_skip:∀ (a l cur:List UInt8),(∀ b ∈ a,128≤b.toNat)→fieldsGo (a ++ l) cur=fieldsGo l (cur ++ a)
 | [],l,cur,_=>by simp
 | b :: a,l,cur,h=>by
  have hb:=h b (List.mem_cons_self ..)
  have h1:blankB b=false:=by simp [blankB];omega
  rw [List.cons_append,fieldsGo,h1,if_neg (by simp),fieldsGo_skip a l (cur ++ [b]) fun x hx=>h x (List.mem_cons_of_mem _ hx),List.append_assoc]
  rfl
section
variable {t:Nat→Option FnE} {cp:RC→CodeE} {fuel:Nat} {dec:List UInt8→Nat × Nat} {num:List UInt8→Nat}
theorem blank_call (T:TCode t) {G:Heap} {r:Nat} (d:Nat) (k:K):callP (evP cp t fuel (d+1)) (.func 86 []) [.int 2 r] G k=k (.bool (decide (r=32) || decide (r=9))) G:=by
 rw [call_entry T.k43 rfl rfl]
 by_cases h1:r=32
 ·subst h1
  simp only [go_sem,↓op_app,reduceCtorEq,Nat.reduceAdd,Nat.reduceSub,Nat.reduceMul,Nat.reduceEqDiff,Nat.reduceLT,Nat.reduceDiv,Nat.reduceMod,Nat.reduceLeDiff,↓reduceIte,c43]
  rfl
 ·have h1':(r=32)=False:=eq_false h1
  by_cases h2:r=9
  ·subst h2
   simp only [go_sem,↓op_app,reduceCtorEq,Nat.reduceAdd,Nat.reduceSub,Nat.reduceMul,Nat.reduceEqDiff,Nat.reduceLT,Nat.reduceDiv,Nat.reduceMod,Nat.reduceLeDiff,↓reduceIte,c43]
   rfl
  ·have h2':(r=9)=False:=eq_false h2
   simp only [go_sem,↓op_app,reduceCtorEq,Nat.reduceAdd,Nat.reduceSub,Nat.reduceMul,Nat.reduceEqDiff,Nat.reduceLT,Nat.reduceDiv,Nat.reduceMod,Nat.reduceLeDiff,↓reduceIte,c43,h1',h2']
   rfl
def stV (cur:List UInt8) (p:Nat):V:=if cur=[] then .int 3 18446744073709551615 else .int 3 p
theorem drop_step {α : Type} {F:List α} {j:Nat} {w : α} {l:List α} (h:F.drop j=w :: l):F[j]? = some w∧F.drop (j+1)=l:=by
 have h1:F[j]? = (F.drop j)[0]?:=by rw [List.getElem?_drop,Nat.add_zero]
 refine ⟨by rw [h1,h];rfl, ?_⟩
 rw [← List.drop_drop,h]
 rfl
def FL (cp:RC→CodeE) (t:Nat→Option FnE) (fuel:Nat) (s:List UInt8) (B C y q:Nat) (I:Nat→Heap→Prop) (m p i:Nat) (cur:List UInt8) (G:Heap):Prop:=
 ∃ j' p' cur' G',I j' G'∧(fieldsGo s []).drop j'=fieldsGo [] cur'∧s.length=p'+cur'.length∧cur'=(s.drop p').take cur'.length ∧ ∀ (d:Nat) (kx:Nat→KE) (r:Nat) (e:Env),m<r→pget ⟨.i0, .i0, .i0⟩ e = .yld y→pget ⟨.i0, .i0, .i1⟩ e = .ptr B 0→pget ⟨.i0, .i0, .i2⟩ e = .ptr C 0→pget ⟨.i0, .i0, .i4⟩ e=stV cur p→pget ⟨.i0, .i0, .i5⟩ e = .int 3 i →
   ∀ x:R,(∀ e',pget ⟨.i0, .i0, .i0⟩ e' = .yld y→pget ⟨.i0, .i0, .i1⟩ e' = .ptr B 0→pget ⟨.i0, .i0, .i4⟩ e'=stV cur' p'→kx 1 e' G'=x)→evL c60l0 fuel (evP cp t fuel (d+q+1)) kx r e G=x
theorem fields_loop (T:TCode t) (S:SNat t dec num) {s:List UInt8} {B C y q:Nat} {I:Nat→Heap→Prop} (hs:s.length≤1000000) (hI:∀ j G,I j G→G.get B = .cells [tv s]∧G.get C = .cells [.func 86 []])
  (hy:∀ j w G,(fieldsGo s [])[j]? = some w→I j G → ∃ G',I (j+1) G' ∧ ∀ (d:Nat) (k:K),callP (evP cp t fuel (d+q+1)) (.yld y) [tv w] G k=k (.bool true) G') :
  ∀ (m:Nat) (rest cur:List UInt8) (p i j:Nat) (G:Heap),rest.length=m→s.drop i=rest→i≤s.length→i=p+cur.length→cur=(s.drop p).take cur.length→(fieldsGo s []).drop j=fieldsGo rest cur→I j G→FL cp t fuel s B C y q I m p i cur G:=by
 intro m
 induction m using Nat.strongRecOn with
 | ind m ih=>
  intro rest cur p i j G hm hr hi hp hc hF hG
  obtain ⟨gB,gC⟩:=hI j G hG
  have n1:nn i:=by unfold nn;omega
  have n2:nn s.length:=by unfold nn;omega
  have n3:s.length<9223372036854775808:=by omega
  have n4:i<9223372036854775808:=by omega
  cases rest with
  | nil=>
   have hil:s.length≤i:=by
    have:=congrArg List.length hr
    simp at this
    omega
   have hie:i=s.length:=by omega
   refine ⟨j,p,cur,G,hG,hF,by omega,hc,fun d kx r e hr h0 h1 h2 h4 h5 x hx => ?_⟩
   obtain ⟨r,rfl⟩:∃ q,r=q+1:=⟨r-1,by omega⟩
   have n5:¬ i<s.length:=by omega
   rw [evL_succ]
   simp only [go_sem,↓op_app,reduceCtorEq,Nat.reduceAdd,Nat.reduceSub,Nat.reduceMul,Nat.reduceEqDiff,Nat.reduceLT,Nat.reduceDiv,Nat.reduceMod,Nat.reduceLeDiff,↓reduceIte,c60l0,h0,h1,h2,h5,gB,isOne_tv,vStr_tv,n1,n2,n3,n5]
   refine hx _ ?_ ?_ ?_ <;> simp only [go_sem,reduceCtorEq,↓reduceIte,h0,h1,h4]
  | cons b l=>
   have hil:i<s.length:=by
    have:=congrArg List.length hr
    simp at this
    omega
   have n6:i≤s.length:=hi
   have hdl:s.length-i=l.length+1:=by
    have:=congrArg List.length hr
    rw [List.length_drop,List.length_cons] at this
    exact this
   have eS:V.str (s.length-i) (enc s >>> (8 * i) % 256 ^ (s.length-i))=tv (b :: l):=by
    rw [str_sl hi (Nat.le_refl _),hr]
    congr 1
    rw [List.take_of_length_le (by simp only [List.length_cons];omega)]
   have hbl:(b :: l).length≤16777216:=by simp only [List.length_cons];omega
   have z1:=fun {d:Nat} {k:K}=>decode_call (cp:=cp) (fuel:=fuel) (d:=d) (H:=G) (k:=k) S (s:=b :: l) (by simp) hbl
   have other:∀ n,1≤n→n≤(b :: l).length→(dec (b :: l)).2=n→(decide ((dec (b :: l)).1=32) || decide ((dec (b :: l)).1=9))=false→fieldsGo (b :: l) cur=fieldsGo ((b :: l).drop n) (cur ++ (b :: l).take n)→FL cp t fuel s B C y q I m p i cur G:=fun n hn1 hn2 hd hbk hg=>by
    have z2:=fun {d:Nat} {k:K}=>blank_call (cp:=cp) (fuel:=fuel) (G:=G) (r:=(dec (b :: l)).1) T d k
    rw [hbk] at z2
    have t1:((b :: l).take n).length=n:=by rw [List.length_take];omega
    have hpl:(cur ++ (b :: l).take n).length=cur.length+n:=by rw [List.length_append,t1]
    simp only [List.length_cons] at hn2 hm
    obtain ⟨j',p',cur',G',a1,a2,a3,a4,a5⟩:=ih ((b :: l).drop n).length (by rw [List.length_drop,List.length_cons];omega) ((b :: l).drop n) (cur ++ (b :: l).take n) p (i+n) j G rfl (by rw [← List.drop_drop,hr]) (by omega) (by rw [hpl];omega)
     (by
      rw [hpl,List.take_add,← hc,List.drop_drop]
      rw [← hp,hr]) (by rw [hF,hg]) hG
    refine ⟨j',p',cur',G',a1,a2,a3,a4,fun d kx r e hr' h0 h1 h2 h4 h5 x hx => ?_⟩
    obtain ⟨r,rfl⟩:∃ q,r=q+1:=⟨r-1,by omega⟩
    have hr2:((b :: l).drop n).length<r:=by rw [List.length_drop,List.length_cons];omega
    have hne:¬ cur ++ (b :: l).take n=[]:=by
     intro h
     have:=congrArg List.length h
     rw [hpl] at this
     simp at this
     omega
    have n7:(i+n) % 18446744073709551616=i+n:=by omega
    have hsv':stV (cur ++ (b :: l).take n) p = .int 3 p:=if_neg hne
    rw [hsv'] at a5
    rw [evL_succ]
    by_cases hcur:cur=[]
    ·have hsv:stV cur p = .int 3 18446744073709551615:=if_pos hcur
     have zc1:(evCF (.lt 9223372036854775808 18446744073709551616) 18446744073709551615 0=true)=True:=by decide
     have hpi:p=i:=by rw [hcur] at hp;exact hp.symm
     rw [hsv] at h4
     simp only [go_sem,↓op_app,reduceCtorEq,Nat.reduceAdd,Nat.reduceSub,Nat.reduceMul,Nat.reduceEqDiff,Nat.reduceLT,Nat.reduceDiv,Nat.reduceMod,Nat.reduceLeDiff,↓reduceIte,c60l0,h0,h1,h2,h4,h5,gB,gC,isOne_tv,vStr_tv,n1,n2,n3,n4,n6,hil,eS,z1,z2,hd,zc1,n7]
     refine a5 d kx r _ hr2 ?_ ?_ ?_ ?_ ?_ x hx <;> simp only [go_sem,↓op_app,reduceCtorEq,Nat.reduceAdd,Nat.reduceSub,Nat.reduceMul,Nat.reduceEqDiff,Nat.reduceLT,Nat.reduceDiv,Nat.reduceMod,Nat.reduceLeDiff,↓reduceIte,h0,h1,h2,h4,h5,hpi]
    ·have hsv:stV cur p = .int 3 p:=if_neg hcur
     have zc1:nn p:=by unfold nn;omega
     have zc2:¬ p<0:=by omega
     rw [hsv] at h4
     simp only [go_sem,↓op_app,reduceCtorEq,Nat.reduceAdd,Nat.reduceSub,Nat.reduceMul,Nat.reduceEqDiff,Nat.reduceLT,Nat.reduceDiv,Nat.reduceMod,Nat.reduceLeDiff,↓reduceIte,c60l0,h0,h1,h2,h4,h5,gB,gC,isOne_tv,vStr_tv,n1,n2,n3,n4,n6,hil,eS,z1,z2,hd,zc1,zc2,n7]
     refine a5 d kx r _ hr2 ?_ ?_ ?_ ?_ ?_ x hx <;> simp only [go_sem,reduceCtorEq,↓reduceIte,h0,h1,h2,h4,h5]
   by_cases hb:b.toNat<128
   ·have hdc:=S.dok.low b l hb
    by_cases hbk:blankB b=true
    ·have hbk':(decide ((dec (b :: l)).1=32) || decide ((dec (b :: l)).1=9))=true:=by rw [hdc];exact hbk
     have z2:=fun {d:Nat} {k:K}=>blank_call (cp:=cp) (fuel:=fuel) (G:=G) (r:=(dec (b :: l)).1) T d k
     rw [hbk'] at z2
     have hd:(dec (b :: l)).2=1:=by rw [hdc]
     have n7:(i+1) % 18446744073709551616=i+1:=by omega
     have hdl1:s.drop (i+1)=l:=by rw [← List.drop_drop,hr];rfl
     simp only [List.length_cons] at hm
     by_cases hcur:cur=[]
     ·have hF1:(fieldsGo s []).drop j=fieldsGo l []:=by rw [hF,fieldsGo,if_pos hbk,if_pos hcur]
      obtain ⟨j',p',cur',G',a1,a2,a3,a4,a5⟩:=ih l.length (by omega) l [] (i+1) (i+1) j G rfl hdl1 (by omega) (by simp) (by simp) hF1 hG
      refine ⟨j',p',cur',G',a1,a2,a3,a4,fun d kx r e hr' h0 h1 h2 h4 h5 x hx => ?_⟩
      obtain ⟨r,rfl⟩:∃ q,r=q+1:=⟨r-1,by omega⟩
      have hsv:stV cur p = .int 3 18446744073709551615:=if_pos hcur
      have zc1:(evCF (.ge 9223372036854775808 18446744073709551616) 18446744073709551615 0=true)=False:=by decide
      have hsv':stV [] (i+1) = .int 3 18446744073709551615:=if_pos rfl
      rw [hsv] at h4
      rw [hsv'] at a5
      rw [evL_succ]
      simp only [go_sem,↓op_app,reduceCtorEq,Nat.reduceAdd,Nat.reduceSub,Nat.reduceMul,Nat.reduceEqDiff,Nat.reduceLT,Nat.reduceDiv,Nat.reduceMod,Nat.reduceLeDiff,↓reduceIte,c60l0,h0,h1,h2,h4,h5,gB,gC,isOne_tv,vStr_tv,n1,n2,n3,n4,n6,hil,eS,z1,z2,hd,zc1,n7]
      refine a5 d kx r _ (by omega) ?_ ?_ ?_ ?_ ?_ x hx <;> simp only [go_sem,reduceCtorEq,↓reduceIte,h0,h1,h2,h4,h5]
     ·have hF1:(fieldsGo s []).drop j=cur :: fieldsGo l []:=by rw [hF,fieldsGo,if_pos hbk,if_neg hcur]
      obtain ⟨y1,y2⟩:=drop_step hF1
      obtain ⟨G1,hG1,y3⟩:=hy j cur G y1 hG
      obtain ⟨j',p',cur',G',a1,a2,a3,a4,a5⟩:=ih l.length (by omega) l [] (i+1) (i+1) (j+1) G1 rfl hdl1 (by omega) (by simp) (by simp) y2 hG1
      refine ⟨j',p',cur',G',a1,a2,a3,a4,fun d kx r e hr' h0 h1 h2 h4 h5 x hx => ?_⟩
      obtain ⟨r,rfl⟩:∃ q,r=q+1:=⟨r-1,by omega⟩
      have hsv:stV cur p = .int 3 p:=if_neg hcur
      have zc1:nn p:=by unfold nn;omega
      have zc2:p<9223372036854775808:=by omega
      have zc3:p≤i:=by omega
      have hsv':stV [] (i+1) = .int 3 18446744073709551615:=if_pos rfl
      have eC:V.str (i-p) (enc s >>> (8 * p) % 256 ^ (i-p))=tv cur:=by
       rw [str_sl zc3 hi,show i-p=cur.length by omega,← hc]
      have y3':=fun {k:K}=>y3 d k
      rw [hsv] at h4
      rw [hsv'] at a5
      rw [evL_succ]
      simp only [go_sem,↓op_app,reduceCtorEq,Nat.reduceAdd,Nat.reduceSub,Nat.reduceMul,Nat.reduceEqDiff,Nat.reduceLT,Nat.reduceDiv,Nat.reduceMod,Nat.reduceLeDiff,↓reduceIte,c60l0,h0,h1,h2,h4,h5,gB,gC,isOne_tv,vStr_tv,n1,n2,n3,n4,n6,hil,eS,z1,z2,hd,zc1,zc2,zc3,n7,eC,y3']
      refine a5 d kx r _ (by omega) ?_ ?_ ?_ ?_ ?_ x hx <;> simp only [go_sem,reduceCtorEq,↓reduceIte,h0,h1,h2,h4,h5]
    ·exact other 1 (Nat.le_refl _) (by simp) (by rw [hdc]) (by rw [hdc];simpa [blankB] using hbk) (by rw [fieldsGo,if_neg hbk];rfl)
   ·have hb':128≤b.toNat:=by omega
    obtain ⟨d1,d2⟩:=S.dok.rune b l hb'
    obtain ⟨d3,d4⟩:=S.dok.size b l hb'
    refine other _ d3 d4 rfl (by simp;omega) ?_
    conv=>lhs;rw [← List.take_append_drop (dec (b :: l)).2 (b :: l)]
    rw [fieldsGo_skip _ _ _ (S.dok.high b l hb')]
abbrev fieldsP (s:List UInt8):List (List UInt8):=fieldsGo s []
theorem fields_call (T:TCode t) (S:SNat t dec num) {s:List UInt8} {B C y q:Nat} {I:Nat→Heap→Prop} (hfu:1000001<fuel) (hs:s.length≤1000000) (hI:∀ j G,I j G→G.get B = .cells [tv s]∧G.get C = .cells [.func 86 []])
  (hy:∀ j w G,(fieldsP s)[j]? = some w→I j G → ∃ G',I (j+1) G' ∧ ∀ (d:Nat) (k:K),callP (evP cp t fuel (d+q+1)) (.yld y) [tv w] G k=k (.bool true) G') {G:Heap} (hG:I 0 G) :
  ∃ j G',(fieldsP s).drop j=[]∧I j G' ∧ ∀ (d:Nat) (k:K),callP (evP cp t fuel (d+q+2)) (.func 120 [.ptr B 0, .ptr C 0]) [.yld y] G k=k (.tup []) G':=by
 obtain ⟨j,p,cur,G1,h1,h2,h3,h4,h5⟩:=fields_loop (cp:=cp) (fuel:=fuel) T S hs hI hy s.length s [] 0 0 0 G rfl rfl (Nat.zero_le _) rfl rfl rfl hG
 have hsv':stV [] 0 = .int 3 18446744073709551615:=if_pos rfl
 rw [hsv'] at h5
 obtain ⟨gB,gC⟩:=hI j G1 h1
 have n3:s.length<9223372036854775808:=by omega
 by_cases hcur:cur=[]
 ·have zc1:(evCF (.ge 9223372036854775808 18446744073709551616) 18446744073709551615 0=true)=False:=by decide
  have hsv:stV cur p = .int 3 18446744073709551615:=if_pos hcur
  refine ⟨j,G1,by rw [h2,fieldsGo,if_pos hcur],h1,fun d k => ?_⟩
  rw [call_entry T.k60 rfl rfl]
  simp only [go_sem,↓op_app,reduceCtorEq,Nat.reduceAdd,Nat.reduceSub,Nat.reduceMul,Nat.reduceEqDiff,Nat.reduceLT,Nat.reduceDiv,Nat.reduceMod,Nat.reduceLeDiff,↓reduceIte,c60]
  refine h5 d _ fuel _ (by omega) ?_ ?_ ?_ ?_ ?_ _ fun e' q0 q1 q4 => ?_
  ·simp only [go_sem,reduceCtorEq,↓reduceIte]
  ·simp only [go_sem,reduceCtorEq,↓reduceIte]
  ·simp only [go_sem,reduceCtorEq,↓reduceIte]
  ·simp only [go_sem,reduceCtorEq,↓reduceIte]
  ·simp only [go_sem,reduceCtorEq,↓reduceIte]
  ·rw [hsv] at q4
   simp only [go_sem,↓op_app,reduceCtorEq,Nat.reduceAdd,Nat.reduceSub,Nat.reduceMul,Nat.reduceEqDiff,Nat.reduceLT,Nat.reduceDiv,Nat.reduceMod,Nat.reduceLeDiff,↓reduceIte,q0,q1,q4,zc1]
 ·have hsv:stV cur p = .int 3 p:=if_neg hcur
  have zc1:nn p:=by unfold nn;omega
  have zc2:p<9223372036854775808:=by omega
  have zc3:p≤s.length:=by omega
  have eC:V.str (s.length-p) (enc s >>> (8 * p) % 256 ^ (s.length-p))=tv cur:=by
   rw [str_sl zc3 (Nat.le_refl _),show s.length-p=cur.length by omega,← h4]
  obtain ⟨y1,y2⟩:=drop_step (show (fieldsGo s []).drop j=cur :: [] by rw [h2,fieldsGo,if_neg hcur])
  obtain ⟨G2,hG2,y3⟩:=hy j cur G1 y1 h1
  refine ⟨j+1,G2,y2,hG2,fun d k => ?_⟩
  have y3':=fun {k:K}=>y3 d k
  rw [call_entry T.k60 rfl rfl]
  simp only [go_sem,↓op_app,reduceCtorEq,Nat.reduceAdd,Nat.reduceSub,Nat.reduceMul,Nat.reduceEqDiff,Nat.reduceLT,Nat.reduceDiv,Nat.reduceMod,Nat.reduceLeDiff,↓reduceIte,c60]
  refine h5 d _ fuel _ (by omega) ?_ ?_ ?_ ?_ ?_ _ fun e' q0 q1 q4 => ?_
  ·simp only [go_sem,reduceCtorEq,↓reduceIte]
  ·simp only [go_sem,reduceCtorEq,↓reduceIte]
  ·simp only [go_sem,reduceCtorEq,↓reduceIte]
  ·simp only [go_sem,reduceCtorEq,↓reduceIte]
  ·simp only [go_sem,reduceCtorEq,↓reduceIte]
  ·rw [hsv] at q4
   simp only [go_sem,↓op_app,reduceCtorEq,Nat.reduceAdd,Nat.reduceSub,Nat.reduceMul,Nat.reduceEqDiff,Nat.reduceLT,Nat.reduceDiv,Nat.reduceMod,Nat.reduceLeDiff,↓reduceIte,q0,q1,q4,gB,isOne_tv,vStr_tv,zc1,zc2,zc3,eC,y3']
end
end Go.Ev
end
