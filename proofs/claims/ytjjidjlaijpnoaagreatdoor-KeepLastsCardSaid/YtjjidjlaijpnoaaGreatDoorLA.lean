/- LA: a part of the evaluator,of its logic,or of the laws' walk in it. -/
import Derived.Test.YtjjidjlaijpnoaaGreatDoorLg
import Derived.Test.YtjjidjlaijpnoaaGreatDoorCode
set_option linter.unusedVariables false
set_option linter.unusedSimpArgs false
set_option linter.unusedSectionVars false
section
namespace Go.Ev
structure DR where
 m:Nat
 u:V
 len:Nat
 room:Nat
 fuse:Nat
 off:Bool
def DR.blk (D:DR):Blk := .cells [.map D.m,D.u, .int 3 D.len, .int 3 D.room, .int 3 D.fuse, .bool D.off]
section
variable {cp:RC→CodeE} {t:Nat→Option FnE} {fuel d:Nat} {H:Heap} {k:K}
structure TDisk (t:Nat→Option FnE):Prop where
 off:t 10=some (.code [⟨.i0, .i0, .i0⟩] [] c10)
 state:t 22=some (.code [⟨.i0, .i0, .i0⟩] [.tmp ⟨.i0, .i0, .i2⟩] c22)
 burn:t 76=some (.code [⟨.i0, .i0, .i0⟩] [.tmp ⟨.i0, .i0, .i2⟩] c76)
 there:t 34=some (.code [⟨.i0, .i0, .i0⟩,⟨.i0, .i0, .i1⟩] [.tmp ⟨.i0, .i0, .i4⟩] c34)
 write:t 63=some (.code [⟨.i0, .i0, .i0⟩,⟨.i0, .i0, .i1⟩,⟨.i0, .i0, .i2⟩] [.tmp ⟨.i0, .i0, .i6⟩] c63)
variable (T:TDisk t)
include T
theorem off_call {p:Nat} {D:DR} (hw:H.wf) (hp:p<H.n) (hg:H.get p=D.blk) :
  callP (evP cp t fuel (d+1)) (.func 20 []) [.ptr p 0] H k=k (.tup []) (H.put p { D with fuse:=0,off:=true }.blk):=by
 rw [call_entry T.off rfl rfl]
 simp only [go_sem,↓op_app,reduceCtorEq,Nat.reduceAdd,Nat.reduceSub,Nat.reduceMul,Nat.reduceEqDiff,Nat.reduceLT,Nat.reduceDiv,Nat.reduceMod,Nat.reduceLeDiff,↓reduceIte,c10,DR.blk,hg,hw,hp]
theorem state_call {p:Nat} {D:DR} (hw:H.wf) (hp:p<H.n) (hg:H.get p=D.blk) :
  callP (evP cp t fuel (d+1)) (.func 44 []) [.ptr p 0] H k=k (.int 3 (if D.off=true then 6 else 0)) H:=by
 rw [call_entry T.state rfl rfl]
 cases ho:D.off <;> simp only [go_sem,↓op_app,reduceCtorEq,Nat.reduceAdd,Nat.reduceSub,Nat.reduceMul,Nat.reduceEqDiff,Nat.reduceLT,Nat.reduceDiv,Nat.reduceMod,Nat.reduceLeDiff,↓reduceIte,c22,DR.blk,hg,hw,hp,ho]
theorem burn_call {p:Nat} {D:DR} (hw:H.wf) (hp:p<H.n) (hg:H.get p=D.blk) (ho:D.off=false) (hf:D.fuse≠1) (hfb:nn D.fuse) :
  callP (evP cp t fuel (d+2)) (.func 152 []) [.ptr p 0] H k=k (.int 3 0) (H.put p { D with fuse:=D.fuse-1 }.blk):=by
 have h5:nn 0:=by unfold nn;decide
 have hs:∀ {k:K},callP (evP cp t fuel (d+1)) (.func 44 []) [.ptr p 0] (H.put p { D with fuse:=D.fuse-1 }.blk) k=k (.int 3 0) (H.put p { D with fuse:=D.fuse-1 }.blk):=fun {k}=>by
  rw [state_call T (D:={ D with fuse:=D.fuse-1 }) (by rw [Heap.wf_put];exact hw) (by rw [Heap.n_put];exact hp) (by rw [Heap.get_put hw hp,if_pos rfl])]
  simp only [ho,Bool.false_eq_true,if_false]
 simp only [DR.blk,ho] at hs ⊢
 rw [call_entry T.burn rfl rfl]
 by_cases h0:D.fuse=0
 ·have h6:mmN true 9223372036854775808 18446744073709551616 18446744073709551615 0=0:=by decide
  have h7:¬ (18446744073709551615=0):=by decide
  simp only [h0] at hs
  simp only [go_sem,↓op_app,reduceCtorEq,Nat.reduceAdd,Nat.reduceSub,Nat.reduceMul,Nat.reduceEqDiff,Nat.reduceLT,Nat.reduceDiv,Nat.reduceMod,Nat.reduceLeDiff,↓reduceIte,c76,DR.blk,hg,hw,hp,ho,h0,h5,h6,h7,hs]
 ·have h1:(D.fuse+18446744073709551615) % 18446744073709551616=D.fuse-1:=by unfold nn at hfb;omega
  have h2:¬ D.fuse-1=0:=by omega
  have h3:nn (D.fuse-1):=by unfold nn at *;omega
  have h4:max (D.fuse-1) 0=D.fuse-1:=by omega
  simp only [go_sem,↓op_app,reduceCtorEq,Nat.reduceAdd,Nat.reduceSub,Nat.reduceMul,Nat.reduceEqDiff,Nat.reduceLT,Nat.reduceDiv,Nat.reduceMod,Nat.reduceLeDiff,↓reduceIte,c76,DR.blk,hg,hw,hp,ho,h1,h2,h3,h4,h5,hs]
theorem there_call {p a:Nat} {D:DR} (hw:H.wf) (hp:p<H.n) (hg:H.get p=D.blk) (hl:nn D.len) (ha:a<18446744073709551616) :
  callP (evP cp t fuel (d+1)) (.func 68 []) [.ptr p 0, .int 3 a] H k=k (.bool (decide (a<D.len))) H:=by
 have h5:nn 0:=by unfold nn;decide
 rw [call_entry T.there rfl rfl]
 by_cases h:nn a
 ·have h8:(0:Nat)≤a:=Nat.zero_le a
  by_cases h9:a<D.len <;> simp only [go_sem,↓op_app,reduceCtorEq,Nat.reduceAdd,Nat.reduceSub,Nat.reduceMul,Nat.reduceEqDiff,Nat.reduceLT,Nat.reduceDiv,Nat.reduceMod,Nat.reduceLeDiff,↓reduceIte,c34,DR.blk,hg,hw,hp,h,h5,h8,h9,hl,decide_true,decide_false]
 ·have h8:(evCF (.ge 9223372036854775808 18446744073709551616) a 0=true)=False:=by
   rw [cf_ge]
   unfold nn at h
   apply propext
   constructor
   ·intro h;omega
   ·exact False.elim
  have h9:¬ a<D.len:=by unfold nn at h hl;omega
  simp only [go_sem,↓op_app,reduceCtorEq,Nat.reduceAdd,Nat.reduceSub,Nat.reduceMul,Nat.reduceEqDiff,Nat.reduceLT,Nat.reduceDiv,Nat.reduceMod,Nat.reduceLeDiff,↓reduceIte,c34,DR.blk,hg,hw,hp,h8,h9,decide_false]
def sv (p:Nat × Nat):V := .str p.1 p.2
def encS (D:List (Nat × (Nat × Nat))):List (Nat × V):=D.map fun p=>(p.1,sv p.2)
def find (D:List (Nat × (Nat × Nat))) (a:Nat):Option (Nat × Nat):=(D.find? fun p=>p.1 == a).map (·.2)
omit T in
theorem lkp_encS:∀ (D:List (Nat × (Nat × Nat))) (a:Nat),lkp (encS D) a=(find D a).map sv
 | [],a=>rfl
 | p :: D,a=>by
  have ih:=lkp_encS D a
  unfold lkp find encS at *
  simp only [List.map_cons,List.find?_cons]
  cases h:p.1 == a with
  | true=>rfl
  | false=>exact ih
set_option maxRecDepth 4000 in
set_option maxHeartbeats 1000000 in
theorem write_nils {p a x:Nat} {D:DR} {es:List (Nat × (Nat × Nat))} (hw:H.wf) (hp:p<H.n) (hg:H.get p=D.blk) (hm:H.get D.m = .map (encM (encS es))) (hmn:D.m<H.n) (hmp:D.m≠p) (ho:D.off=false) (hf:D.fuse≠1) (hfb:nn D.fuse) (hl:nn D.len) (hr:nn D.room) (he:es.length<9223372036854775808)
  (ha:a<D.len) (hroom:(find es a).isSome=true∨es.length<D.room) (hu:D.u = .nils) :
  callP (evP cp t fuel (d+3)) (.func 126 []) [.ptr p 0, .int 3 a, .str 32 x] H k=k (.int 3 0)
   (((((H.put p { D with fuse:=D.fuse-1 }.blk).new (.cells [.int 3 a,sv ((find es a).getD (0,0)), .bool (find es a).isSome])).new (.cells [.int 3 a,sv ((find es a).getD (0,0)), .bool (find es a).isSome])).put p { D with fuse:=D.fuse-1,u := .slice (H.n+1) 0 1 0 3 }.blk).put D.m (.map (encM (upd (encS es) a (.str 32 x))))):=by
 have hs:∀ {k:K},callP (evP cp t fuel (d+2)) (.func 44 []) [.ptr p 0] H k=k (.int 3 0) H:=fun {k}=>by
  rw [state_call T hw hp hg,ho]
  rfl
 have ht:∀ {k:K},callP (evP cp t fuel (d+2)) (.func 68 []) [.ptr p 0, .int 3 a] H k=k (.bool true) H:=fun {k}=>by
  rw [there_call T hw hp hg hl (by unfold nn at hl;omega),decide_eq_true ha]
 have hb:∀ {k:K},callP (evP cp t fuel (d+2)) (.func 152 []) [.ptr p 0] H k=k (.int 3 0) (H.put p { D with fuse:=D.fuse-1 }.blk):=fun {k}=>burn_call T hw hp hg ho hf hfb
 have n1:¬ p=H.n:=by omega
 have n2:¬ p=H.n+1:=by omega
 have n3:¬ D.m=H.n:=by omega
 have n4:¬ D.m=H.n+1:=by omega
 have n5:p<H.n+1+1:=by omega
 have n6:D.m<H.n+1+1:=by omega
 have n7:¬ H.n=H.n+1:=by omega
 rw [call_entry T.write rfl rfl]
 simp only [DR.blk] at hb
 have hlk:=lkp_encS es a
 have hel:(encM (encS es)).length=es.length:=by simp [encM,encS]
 have hnn:nn es.length:=by unfold nn;omega
 cases hfi:find es a with
 | some q=>
  rw [hfi] at hlk
  simp only [Option.map_some,sv] at hlk
  simp only [go_sem,↓op_app,reduceCtorEq,Nat.reduceAdd,Nat.reduceSub,Nat.reduceMul,Nat.reduceEqDiff,Nat.reduceLT,Nat.reduceDiv,Nat.reduceMod,Nat.reduceLeDiff,↓reduceIte,c63,hs,ht,hb,DR.blk,hg,hm,hw,hp,hmn,hmp,ho,hu,hlk,n1,n2,n3,n4,n5,n6,n7,Option.getD_some,Option.isSome_some,sv]
 | none=>
  rw [hfi] at hlk
  simp only [Option.map_none] at hlk
  have hrm:¬ D.room≤es.length:=by
   rcases hroom with h | h
   ·rw [hfi] at h;cases h
   ·omega
  simp only [go_sem,↓op_app,reduceCtorEq,Nat.reduceAdd,Nat.reduceSub,Nat.reduceMul,Nat.reduceEqDiff,Nat.reduceLT,Nat.reduceDiv,Nat.reduceMod,Nat.reduceLeDiff,↓reduceIte,c63,hs,ht,hb,DR.blk,hg,hm,hw,hp,hmn,hmp,ho,hu,hlk,hel,hnn,hr,he,hrm,n1,n2,n3,n4,n5,n6,n7,Option.getD_none,Option.isSome_none,sv]
set_option maxRecDepth 4000 in
set_option maxHeartbeats 1000000 in
theorem write_slice {p a x:Nat} {D:DR} {es:List (Nat × (Nat × Nat))} (hw:H.wf) (hp:p<H.n) (hg:H.get p=D.blk) (hm:H.get D.m = .map (encM (encS es))) (hmn:D.m<H.n) (hmp:D.m≠p) (ho:D.off=false) (hf:D.fuse≠1) (hfb:nn D.fuse) (hl:nn D.len) (hr:nn D.room) (he:es.length<9223372036854775808)
  (ha:a<D.len) (hroom:(find es a).isSome=true∨es.length<D.room) {ub n:Nat} {us:List V} (hu:D.u = .slice ub 0 n 0 3) (hus:us.length=n * 3) (hn0:0<n) (hnb:n<1073741000) (hub:H.get ub = .cells us) (hubn:ub<H.n) (hup:ub≠p) (hum:ub≠D.m) :
  callP (evP cp t fuel (d+3)) (.func 126 []) [.ptr p 0, .int 3 a, .str 32 x] H k=k (.int 3 0)
   ((((((H.put p { D with fuse:=D.fuse-1 }.blk).new (.cells [.int 3 a,sv ((find es a).getD (0,0)), .bool (find es a).isSome])).put ub .dead).new (.cells (us ++ [.int 3 a,sv ((find es a).getD (0,0)), .bool (find es a).isSome]))).put p { D with fuse:=D.fuse-1,u := .slice (H.n+1) 0 (n+1) 0 3 }.blk).put D.m (.map (encM (upd (encS es) a (.str 32 x))))):=by
 have hs:∀ {k:K},callP (evP cp t fuel (d+2)) (.func 44 []) [.ptr p 0] H k=k (.int 3 0) H:=fun {k}=>by
  rw [state_call T hw hp hg,ho]
  rfl
 have ht:∀ {k:K},callP (evP cp t fuel (d+2)) (.func 68 []) [.ptr p 0, .int 3 a] H k=k (.bool true) H:=fun {k}=>by
  rw [there_call T hw hp hg hl (by unfold nn at hl;omega),decide_eq_true ha]
 have hb:∀ {k:K},callP (evP cp t fuel (d+2)) (.func 152 []) [.ptr p 0] H k=k (.int 3 0) (H.put p { D with fuse:=D.fuse-1 }.blk):=fun {k}=>burn_call T hw hp hg ho hf hfb
 have n1:¬ p=H.n:=by omega
 have n2:¬ p=H.n+1:=by omega
 have n3:¬ D.m=H.n:=by omega
 have n4:¬ D.m=H.n+1:=by omega
 have n5:p<H.n+1+1:=by omega
 have n6:D.m<H.n+1+1:=by omega
 have n7:¬ H.n=H.n+1:=by omega
 have n8:¬ ub=H.n:=by omega
 have n9:¬ ub=H.n+1:=by omega
 have n10:ub<H.n+1:=by omega
 have n11:n+1≤1073741824:=by omega
 have n12:¬ p=ub:=fun e=>hup e.symm
 have n13:¬ D.m=ub:=fun e=>hum e.symm
 rw [call_entry T.write rfl rfl]
 simp only [DR.blk] at hb
 have hlk:=lkp_encS es a
 have hel:(encM (encS es)).length=es.length:=by simp [encM,encS]
 have hnn:nn es.length:=by unfold nn;omega
 cases hfi:find es a with
 | some q=>
  rw [hfi] at hlk
  simp only [Option.map_some,sv] at hlk
  simp only [go_sem,↓op_app,reduceCtorEq,Nat.reduceAdd,Nat.reduceSub,Nat.reduceMul,Nat.reduceEqDiff,Nat.reduceLT,Nat.reduceDiv,Nat.reduceMod,Nat.reduceLeDiff,↓reduceIte,c63,hs,ht,hb,DR.blk,hg,hm,hw,hp,hmn,hmp,ho,hu,hlk,n1,n2,n3,n4,n5,n6,n7,n8,n9,n10,n11,n12,n13,hus,hub,hup,hum,hubn,Option.getD_some,Option.isSome_some,sv]
 | none=>
  rw [hfi] at hlk
  simp only [Option.map_none] at hlk
  have hrm:¬ D.room≤es.length:=by
   rcases hroom with h | h
   ·rw [hfi] at h;cases h
   ·omega
  simp only [go_sem,↓op_app,reduceCtorEq,Nat.reduceAdd,Nat.reduceSub,Nat.reduceMul,Nat.reduceEqDiff,Nat.reduceLT,Nat.reduceDiv,Nat.reduceMod,Nat.reduceLeDiff,↓reduceIte,c63,hs,ht,hb,DR.blk,hg,hm,hw,hp,hmn,hmp,ho,hu,hlk,hel,hnn,hr,he,hrm,n1,n2,n3,n4,n5,n6,n7,n8,n9,n10,n11,n12,n13,hus,hub,hup,hum,hubn,Option.getD_none,Option.isSome_none,sv]
end
structure DiskIs (H:Heap) (p:Nat) (D:DR) (es:List (Nat × (Nat × Nat))) (us:List V):Prop where
 wf:H.wf
 hp:p<H.n
 hg:H.get p=D.blk
 hm:H.get D.m = .map (encM (encS es))
 hmn:D.m<H.n
 hmp:D.m≠p
 undo:(D.u = .nils∧us=[]) ∨ ∃ ub n,D.u = .slice ub 0 n 0 3∧us.length=n * 3∧0<n∧H.get ub = .cells us∧ub<H.n∧ub≠p∧ub≠D.m
 hl:nn D.len
 hr:nn D.room
 hf:nn D.fuse
 he:es.length<9223372036854775808
theorem Heap.lo_put {H:Heap} {lo b:Nat} {x:Blk} (h1:lo≤H.wlo) (h2:lo≤b):lo≤(H.put b x).wlo:=by
 by_cases h:H.wf∧b<H.n
 ·rw [Heap.wlo_put h.1 h.2]
  split <;> assumption
 ·have e:H.put b x=H:=if_neg h
  rw [e]
  exact h1
theorem Heap.lo_new {H:Heap} {lo:Nat} {x:Blk} (h1:lo≤H.wlo):lo≤(H.new x).wlo:=h1
def DR.owns (D:DR) (p b:Nat):Prop:=b=p∨b=D.m ∨ ∃ o n c s,D.u = .slice b o n c s
def updS:List (Nat × (Nat × Nat))→Nat→(Nat × Nat)→List (Nat × (Nat × Nat))
 | [],a,v => [(a,v)]
 | p :: D,a,v=>if p.1=a then (p.1,v) :: D else p :: updS D a v
theorem upd_encS:∀ (D:List (Nat × (Nat × Nat))) (a:Nat) (v:Nat × Nat),upd (encS D) a (sv v)=encS (updS D a v)
 | [],a,v=>rfl
 | p :: D,a,v=>by
  have ih:=upd_encS D a v
  by_cases h:p.1=a
  ·simp [encS,upd,updS,h]
  ·simp only [encS,List.map_cons,upd,updS,h,if_false]
   simp only [encS] at ih
   rw [ih]
theorem updS_length:∀ (D:List (Nat × (Nat × Nat))) (a:Nat) (v:Nat × Nat),(updS D a v).length=if (find D a).isSome=true then D.length else D.length+1
 | [],a,v=>rfl
 | p :: D,a,v=>by
  have ih:=updS_length D a v
  by_cases h:p.1=a
  ·have hb:(p.1 == a)=true:=by simpa using h
   simp [updS,find,h]
  ·have hb:(p.1 == a)=false:=by simpa using h
   have hf:find (p :: D) a=find D a:=by simp [find,List.find?_cons,hb]
   rw [hf]
   simp only [updS,h,if_false,List.length_cons,ih]
   split <;> rfl
section
variable {cp:RC→CodeE} {t:Nat→Option FnE} {fuel d:Nat} {H:Heap} {k:K}
theorem write_ok (T:TDisk t) {p a x:Nat} {D:DR} {es:List (Nat × (Nat × Nat))} {us:List V} (h:DiskIs H p D es us) (ho:D.off=false) (hf:D.fuse≠1) (hub:us.length<3000000) (heb:es.length<1000000)
  (ha:a<D.len) (hroom:(find es a).isSome=true∨es.length<D.room) :
  ∃ H' D',(∀ (d:Nat) (k:K),callP (evP cp t fuel (d+3)) (.func 126 []) [.ptr p 0, .int 3 a, .str 32 x] H k=k (.int 3 0) H') ∧
   DiskIs H' p D' (updS es a (32,x)) (us ++ [.int 3 a,sv ((find es a).getD (0,0)), .bool (find es a).isSome])∧D'.m=D.m∧D'.len=D.len∧D'.room=D.room∧D'.fuse=D.fuse-1∧D'.off=false∧H.n≤H'.n ∧
   (∀ b,b<H.n → ¬ D.owns p b→H'.get b=H.get b ∧ ¬ D'.owns p b) ∧
   (∀ lo,lo≤H.wlo→lo≤H.n→(∀ b,D.owns p b→lo≤b)→lo≤H'.wlo ∧ ∀ b,D'.owns p b→lo≤b):=by
 have hlen:=updS_length es a (32,x)
 have hle:(updS es a (32,x)).length≤es.length+1:=by rw [hlen];split <;> omega
 have hw:=h.wf
 have hp:=h.hp
 have hmn:=h.hmn
 have hfb:nn (D.fuse-1):=by have:=h.hf;unfold nn at *;omega
 have n1:¬ p=H.n:=by omega
 have n2:¬ p=H.n+1:=by omega
 have n3:¬ D.m=H.n:=by omega
 have n4:¬ D.m=H.n+1:=by omega
 have n5:p<H.n+1+1:=by omega
 have n6:D.m<H.n+1+1:=by omega
 have n7:¬ p=D.m:=fun e=>h.hmp e.symm
 have hv:upd (encS es) a (.str 32 x)=encS (updS es a (32,x)):=upd_encS es a (32,x)
 rcases h.undo with ⟨hu,rfl⟩ | ⟨ub,n,hu,hus,hn0,hub',hubn,hup,hum⟩
 ·refine ⟨_, { D with fuse:=D.fuse-1,u := .slice (H.n+1) 0 1 0 3,off:=false },fun d k=>write_nils T hw hp h.hg h.hm hmn h.hmp ho hf h.hf h.hl h.hr h.he ha hroom hu, ?_,rfl,rfl,rfl,rfl,rfl, ?_,fun b hb hno => ?_,fun lo hlo hln hlO=>⟨?_, ?_⟩⟩
  ·refine ⟨by simp only [Heap.wf_put,Heap.wf_new,hw],by simp only [Heap.n_put,Heap.n_new];omega, ?_, ?_,by simp only [Heap.n_put,Heap.n_new];exact n6,h.hmp,Or.inr ⟨H.n+1,1,rfl,rfl,by omega, ?_,by simp only [Heap.n_put,Heap.n_new];omega,fun e=>n2 e.symm,fun e=>n4 e.symm⟩,h.hl,h.hr,hfb,by omega⟩
   ·simp only [Heap.get_put,Heap.get_new,Heap.wf_put,Heap.wf_new,Heap.n_put,Heap.n_new,hw,hp,n5,n6,n7,if_false,if_true,ho]
   ·simp only [Heap.get_put,Heap.get_new,Heap.wf_put,Heap.wf_new,Heap.n_put,Heap.n_new,hw,hp,n5,n6,n7,if_false,if_true,hv]
   ·have e1:¬ H.n+1=D.m:=fun e=>n4 e.symm
    have e2:¬ H.n+1=p:=fun e=>n2 e.symm
    simp only [Heap.get_put,Heap.get_new,Heap.wf_put,Heap.wf_new,Heap.n_put,Heap.n_new,hw,hp,n5,n6,n7,e1,e2,if_false,if_true,List.nil_append]
  ·simp only [Heap.n_put,Heap.n_new];omega
  ·have e1:¬ b=D.m:=fun e=>hno (Or.inr (Or.inl e))
   have e2:¬ b=p:=fun e=>hno (Or.inl e)
   have e3:¬ b=H.n:=by omega
   have e4:¬ b=H.n+1:=by omega
   refine ⟨by simp only [Heap.get_put,Heap.get_new,Heap.wf_put,Heap.wf_new,Heap.n_put,Heap.n_new,hw,hp,n5,n6,e1,e2,e3,e4,if_false], ?_⟩
   rintro (e | e | ⟨o,m,c,s,e⟩)
   ·exact e2 e
   ·exact e1 e
   ·simp only [V.slice.injEq] at e
    omega
  ·exact Heap.lo_put (Heap.lo_put (Heap.lo_new (Heap.lo_new (Heap.lo_put hlo (hlO _ (Or.inl rfl))))) (hlO _ (Or.inl rfl))) (hlO _ (Or.inr (Or.inl rfl)))
  ·rintro b (e | e | ⟨o,m,c,s,e⟩)
   ·exact hlO b (Or.inl e)
   ·exact hlO b (Or.inr (Or.inl e))
   ·simp only [V.slice.injEq] at e
    omega
 ·have n8:¬ ub=H.n:=by omega
  have n9:¬ ub=H.n+1:=by omega
  have n10:ub<H.n+1:=by omega
  have n12:¬ p=ub:=fun e=>hup e.symm
  have n13:¬ D.m=ub:=fun e=>hum e.symm
  refine ⟨_, { D with fuse:=D.fuse-1,u := .slice (H.n+1) 0 (n+1) 0 3,off:=false },fun d k=>write_slice T hw hp h.hg h.hm hmn h.hmp ho hf h.hf h.hl h.hr h.he ha hroom hu hus hn0 (by omega) hub' hubn hup hum, ?_,rfl,rfl,rfl,rfl,rfl, ?_,fun b hb hno => ?_,fun lo hlo hln hlO=>⟨?_, ?_⟩⟩
  ·refine ⟨by simp only [Heap.wf_put,Heap.wf_new,hw],by simp only [Heap.n_put,Heap.n_new];omega, ?_, ?_,by simp only [Heap.n_put,Heap.n_new];exact n6,h.hmp,Or.inr ⟨H.n+1,n+1,rfl,by simp;omega,by omega, ?_,by simp only [Heap.n_put,Heap.n_new];omega,fun e=>n2 e.symm,fun e=>n4 e.symm⟩,h.hl,h.hr,hfb,by omega⟩
   ·simp only [Heap.get_put,Heap.get_new,Heap.wf_put,Heap.wf_new,Heap.n_put,Heap.n_new,hw,hp,n5,n6,n7,n10,if_false,if_true,ho]
   ·simp only [Heap.get_put,Heap.get_new,Heap.wf_put,Heap.wf_new,Heap.n_put,Heap.n_new,hw,hp,n5,n6,n7,n10,if_false,if_true,hv]
   ·have e1:¬ H.n+1=D.m:=fun e=>n4 e.symm
    have e2:¬ H.n+1=p:=fun e=>n2 e.symm
    simp only [Heap.get_put,Heap.get_new,Heap.wf_put,Heap.wf_new,Heap.n_put,Heap.n_new,hw,hp,n5,n6,n7,n10,e1,e2,if_false,if_true]
  ·simp only [Heap.n_put,Heap.n_new];omega
  ·have e1:¬ b=D.m:=fun e=>hno (Or.inr (Or.inl e))
   have e2:¬ b=p:=fun e=>hno (Or.inl e)
   have e3:¬ b=H.n:=by omega
   have e4:¬ b=H.n+1:=by omega
   have e5:¬ b=ub:=fun e=>hno (Or.inr (Or.inr ⟨0,n,0,3,by rw [hu,e]⟩))
   refine ⟨by simp only [Heap.get_put,Heap.get_new,Heap.wf_put,Heap.wf_new,Heap.n_put,Heap.n_new,hw,hp,n5,n6,n10,e1,e2,e3,e4,e5,if_false], ?_⟩
   rintro (e | e | ⟨o,m,c,s,e⟩)
   ·exact e2 e
   ·exact e1 e
   ·simp only [V.slice.injEq] at e
    omega
  ·exact Heap.lo_put (Heap.lo_put (Heap.lo_new (Heap.lo_put (Heap.lo_new (Heap.lo_put hlo (hlO _ (Or.inl rfl)))) (hlO _ (Or.inr (Or.inr ⟨0,n,0,3,hu⟩))))) (hlO _ (Or.inl rfl))) (hlO _ (Or.inr (Or.inl rfl)))
  ·rintro b (e | e | ⟨o,m,c,s,e⟩)
   ·exact hlO b (Or.inl e)
   ·exact hlO b (Or.inr (Or.inl e))
   ·simp only [V.slice.injEq] at e
    omega
end
end Go.Ev
end
section
namespace Go.Ev
section
variable {cp:RC→CodeE} {t:Nat→Option FnE} {fuel d:Nat} {H:Heap} {k:K}
structure TDisk2 (t:Nat→Option FnE):Prop extends TDisk t where
 flush:t 64=some (.code [⟨.i0, .i0, .i0⟩] [.tmp ⟨.i0, .i0, .i2⟩] c64)
 read:t 18=some (.code [⟨.i0, .i0, .i0⟩,⟨.i0, .i0, .i1⟩] [.tmp ⟨.i0, .i0, .i4⟩, .tmp ⟨.i0, .i0, .i5⟩] c18)
 len:t 29=some (.code [⟨.i0, .i0, .i0⟩] [.tmp ⟨.i0, .i0, .i2⟩] c29)
 on:t 15=some (.code [⟨.i0, .i0, .i0⟩] [.tmp ⟨.i0, .i0, .i2⟩] c15)
variable (T:TDisk2 t)
include T
theorem len_call {p:Nat} {D:DR} (hw:H.wf) (hp:p<H.n) (hg:H.get p=D.blk) :
  callP (evP cp t fuel (d+1)) (.func 58 []) [.ptr p 0] H k=k (.int 3 D.len) H:=by
 rw [call_entry T.len rfl rfl]
 simp only [go_sem,↓op_app,reduceCtorEq,Nat.reduceAdd,Nat.reduceSub,Nat.reduceMul,Nat.reduceEqDiff,Nat.reduceLT,Nat.reduceDiv,Nat.reduceMod,Nat.reduceLeDiff,↓reduceIte,c29,DR.blk,hg,hw,hp]
theorem on_call {p:Nat} {D:DR} (hw:H.wf) (hp:p<H.n) (hg:H.get p=D.blk) :
  callP (evP cp t fuel (d+2)) (.func 30 []) [.ptr p 0] H k=k (.bool (!D.off)) H:=by
 have hs:∀ {k:K},callP (evP cp t fuel (d+1)) (.func 44 []) [.ptr p 0] H k=k (.int 3 (if D.off=true then 6 else 0)) H:=fun {k}=>state_call T.toTDisk hw hp hg
 rw [call_entry T.on rfl rfl]
 cases ho:D.off <;> rw [ho] at hs <;> simp only [Bool.false_eq_true,if_false,if_true] at hs <;> simp only [go_sem,↓op_app,reduceCtorEq,Nat.reduceAdd,Nat.reduceSub,Nat.reduceMul,Nat.reduceEqDiff,Nat.reduceLT,Nat.reduceDiv,Nat.reduceMod,Nat.reduceLeDiff,↓reduceIte,c15,hs]
theorem flush_call {p:Nat} {D:DR} (hw:H.wf) (hp:p<H.n) (hg:H.get p=D.blk) (ho:D.off=false) (hf:D.fuse≠1) (hfb:nn D.fuse) :
  callP (evP cp t fuel (d+3)) (.func 128 []) [.ptr p 0] H k=k (.int 3 0) (H.put p { D with fuse:=D.fuse-1,u := .nils }.blk):=by
 have hs:∀ {k:K},callP (evP cp t fuel (d+2)) (.func 44 []) [.ptr p 0] H k=k (.int 3 0) H:=fun {k}=>by
  rw [state_call T.toTDisk hw hp hg,ho]
  rfl
 have hb:∀ {k:K},callP (evP cp t fuel (d+2)) (.func 152 []) [.ptr p 0] H k=k (.int 3 0) (H.put p { D with fuse:=D.fuse-1 }.blk):=fun {k}=>burn_call T.toTDisk hw hp hg ho hf hfb
 simp only [DR.blk] at hb
 rw [call_entry T.flush rfl rfl]
 simp only [go_sem,↓op_app,reduceCtorEq,Nat.reduceAdd,Nat.reduceSub,Nat.reduceMul,Nat.reduceEqDiff,Nat.reduceLT,Nat.reduceDiv,Nat.reduceMod,Nat.reduceLeDiff,↓reduceIte,c64,hs,hb,DR.blk,hg,hw,hp,ho]
set_option maxRecDepth 4000 in
theorem read_call {p a:Nat} {D:DR} {es:List (Nat × (Nat × Nat))} (hw:H.wf) (hp:p<H.n) (hg:H.get p=D.blk) (hm:H.get D.m = .map (encM (encS es))) (ho:D.off=false) (hl:nn D.len) (ha:a<D.len) :
  callP (evP cp t fuel (d+3)) (.func 36 []) [.ptr p 0, .int 3 a] H k=k (.tup [sv ((find es a).getD (32,0)), .int 3 0]) (if (find es a).isSome=true then H else H.new (.bytes 32 0)):=by
 have hs:∀ {k:K},callP (evP cp t fuel (d+2)) (.func 44 []) [.ptr p 0] H k=k (.int 3 0) H:=fun {k}=>by
  rw [state_call T.toTDisk hw hp hg,ho]
  rfl
 have ht:∀ {k:K},callP (evP cp t fuel (d+2)) (.func 68 []) [.ptr p 0, .int 3 a] H k=k (.bool true) H:=fun {k}=>by
  rw [there_call T.toTDisk hw hp hg hl (by unfold nn at hl;omega),decide_eq_true ha]
 have hlk:=lkp_encS es a
 rw [call_entry T.read rfl rfl]
 cases hfi:find es a with
 | some q=>
  rw [hfi] at hlk
  simp only [Option.map_some,sv] at hlk
  simp only [go_sem,↓op_app,reduceCtorEq,Nat.reduceAdd,Nat.reduceSub,Nat.reduceMul,Nat.reduceEqDiff,Nat.reduceLT,Nat.reduceDiv,Nat.reduceMod,Nat.reduceLeDiff,↓reduceIte,c18,hs,ht,DR.blk,hg,hm,hw,hp,ho,hlk,Option.getD_some,Option.isSome_some,sv]
 | none=>
  rw [hfi] at hlk
  simp only [Option.map_none] at hlk
  simp only [go_sem,↓op_app,reduceCtorEq,Nat.reduceAdd,Nat.reduceSub,Nat.reduceMul,Nat.reduceEqDiff,Nat.reduceLT,Nat.reduceDiv,Nat.reduceMod,Nat.reduceLeDiff,↓reduceIte,c18,hs,ht,DR.blk,hg,hm,hw,hp,ho,hlk,Option.getD_none,Option.isSome_none,sv]
end
end Go.Ev
end
section
namespace Go.Ev
section
variable {cp:RC→CodeE} {t:Nat→Option FnE} {fuel d:Nat} {k:K}
theorem indexFunc_loop {ph:Phi} {kx:Nat→KE} {b off n c s:Nat} {f:V} {Hs:Nat→Heap} {row:List V} (hn:n<9223372036854775808) (hrow:∀ i,i<n→(Hs i).get b = .cells row) (hlen:off+n≤row.length)
  (hf:∀ i v,i<n→row[off+i]? = some v → ∀ k:K,callP ph f [v] (Hs i) k=k (.bool false) (Hs (i+1))) :
  ∀ (m i r:Nat) (e:Env),i+m=n→m<r→pget ⟨.i0, .i0, .i0⟩ e = .slice b off n c s→pget ⟨.i0, .i0, .i1⟩ e=f→pget ⟨.i0, .i0, .i7⟩ e = .int 3 n→pget ⟨.i0, .i1, .i0⟩ e = .int 3 i →
   ∀ x:R,(∀ e',kx 1 e' (Hs n)=x)→evL c75l0 fuel ph kx r e (Hs i)=x:=by
 have hnn:nn n:=by unfold nn;omega
 intro m
 induction m with
 | zero=>
  intro i r e hi hr h0 h1 h7 h10 x hx
  obtain ⟨r,rfl⟩:∃ q,r=q+1:=⟨r-1,by omega⟩
  have hi':i=n:=by omega
  subst hi'
  have hlt:¬ i<i:=by omega
  rw [evL_succ]
  simp only [go_sem,↓op_app,reduceCtorEq,Nat.reduceAdd,Nat.reduceSub,Nat.reduceMul,Nat.reduceEqDiff,Nat.reduceLT,Nat.reduceDiv,Nat.reduceMod,Nat.reduceLeDiff,↓reduceIte,c75l0,h0,h1,h7,h10,hnn,hlt]
  exact hx _
 | succ m ih=>
  intro i r e hi hr h0 h1 h7 h10 x hx
  obtain ⟨r,rfl⟩:∃ q,r=q+1:=⟨r-1,by omega⟩
  have hlt:i<n:=by omega
  have hin:nn i:=by unfold nn;omega
  have hib:i<9223372036854775808:=by omega
  have hv:row[off+i]? = some row[off+i]:=List.getElem?_eq_getElem (by omega)
  have hnth:∀ {id:Nat} {k:V→R},nth id row (off+i) k=k row[off+i]:=nth_get hv
  have hc:=hf i _ hlt hv
  have hadd:(i+1) % 18446744073709551616=i+1:=by omega
  rw [evL_succ]
  simp only [go_sem,↓op_app,reduceCtorEq,Nat.reduceAdd,Nat.reduceSub,Nat.reduceMul,Nat.reduceEqDiff,Nat.reduceLT,Nat.reduceDiv,Nat.reduceMod,Nat.reduceLeDiff,↓reduceIte,c75l0,h0,h1,h7,h10,hnn,hin,hlt,hib,hnth,hrow i hlt,hc,hadd]
  refine ih (i+1) r _ (by omega) (by omega) ?_ ?_ ?_ ?_ x hx <;> simp only [go_sem,reduceCtorEq,↓reduceIte,h0,h1,h7,h10]
theorem contains_none {b off n c s:Nat} {f:V} {Hs:Nat→Heap} {row:List V} (h1:t 75=some (.code [⟨.i0, .i0, .i0⟩,⟨.i0, .i0, .i1⟩] [.tmp ⟨.i0, .i0, .i4⟩] c75)) (h2:t 62=some (.code [⟨.i0, .i0, .i0⟩,⟨.i0, .i0, .i1⟩] [.tmp ⟨.i0, .i0, .i4⟩] c62))
  (hn:n<9223372036854775808) (hfu:n<fuel) (hrow:∀ i,i<n→(Hs i).get b = .cells row) (hlen:off+n≤row.length)
  (hf:∀ i v,i<n→row[off+i]? = some v → ∀ k:K,callP (evP cp t fuel d) f [v] (Hs i) k=k (.bool false) (Hs (i+1))) :
  callP (evP cp t fuel (d+2)) (.func 124 []) [.slice b off n c s,f] (Hs 0) k=k (.bool false) (Hs n):=by
 have hi:∀ {k:K},callP (evP cp t fuel (d+1)) (.func 150 []) [.slice b off n c s,f] (Hs 0) k=k (.int 3 18446744073709551615) (Hs n):=fun {k}=>by
  rw [call_entry h1 rfl rfl]
  simp only [go_sem,↓op_app,reduceCtorEq,Nat.reduceAdd,Nat.reduceSub,Nat.reduceMul,Nat.reduceEqDiff,Nat.reduceLT,Nat.reduceDiv,Nat.reduceMod,Nat.reduceLeDiff,↓reduceIte,c75,hn]
  refine indexFunc_loop (c:=c) (s:=s) hn hrow hlen hf n 0 fuel _ (by omega) hfu ?_ ?_ ?_ ?_ _ fun e' => ?_ <;> simp only [go_sem,reduceCtorEq,↓reduceIte]
 have h5:(evCF (.ge 9223372036854775808 18446744073709551616) 18446744073709551615 0=true)=False:=by
  rw [cf_ge]
  exact propext ⟨fun h=>by omega,False.elim⟩
 rw [call_entry h2 rfl rfl]
 simp only [go_sem,↓op_app,reduceCtorEq,Nat.reduceAdd,Nat.reduceSub,Nat.reduceMul,Nat.reduceEqDiff,Nat.reduceLT,Nat.reduceDiv,Nat.reduceMod,Nat.reduceLeDiff,↓reduceIte,c62,hi,h5]
end
end Go.Ev
end
section
namespace Go.Ev
def encC (D:List (Nat × Nat)):List (Nat × V):=D.map fun p=>(p.1, .int 3 p.2)
def findC (D:List (Nat × Nat)) (a:Nat):Option Nat:=(D.find? fun p=>p.1 == a).map (·.2)
def updC:List (Nat × Nat)→Nat→Nat→List (Nat × Nat)
 | [],a,v => [(a,v)]
 | p :: D,a,v=>if p.1=a then (p.1,v) :: D else p :: updC D a v
theorem lkp_encC:∀ (D:List (Nat × Nat)) (a:Nat),lkp (encC D) a=(findC D a).map (V.int 3)
 | [],a=>rfl
 | p :: D,a=>by
  have ih:=lkp_encC D a
  unfold lkp findC encC at *
  simp only [List.map_cons,List.find?_cons]
  cases h:p.1 == a with
  | true=>rfl
  | false=>exact ih
theorem upd_encC:∀ (D:List (Nat × Nat)) (a v:Nat),upd (encC D) a (.int 3 v)=encC (updC D a v)
 | [],a,v=>rfl
 | p :: D,a,v=>by
  have ih:=upd_encC D a v
  by_cases h:p.1=a
  ·simp [encC,upd,updC,h]
  ·simp only [encC,List.map_cons,upd,updC,h,if_false]
   simp only [encC] at ih
   rw [ih]
def cnt (D:List (Nat × Nat)) (a:Nat):List (Nat × Nat):=updC D a (((findC D a).getD 0+1) % 18446744073709551616)
section
variable {cp:RC→CodeE} {t:Nat→Option FnE} {fuel d:Nat} {H:Heap} {k:K}
structure TDisk3 (t:Nat→Option FnE):Prop extends TDisk2 t where
 fits:t 39=some (.code [⟨.i0, .i0, .i0⟩,⟨.i0, .i0, .i1⟩] [.tmp ⟨.i0, .i0, .i4⟩] c39)
 fits1:t 61=some (.code [⟨.i0, .i0, .i0⟩,⟨.i0, .i0, .i1⟩,⟨.i0, .i0, .i2⟩] [.tmp ⟨.i0, .i0, .i4⟩] c61)
 index:t 75=some (.code [⟨.i0, .i0, .i0⟩,⟨.i0, .i0, .i1⟩] [.tmp ⟨.i0, .i0, .i4⟩] c75)
 contains:t 62=some (.code [⟨.i0, .i0, .i0⟩,⟨.i0, .i0, .i1⟩] [.tmp ⟨.i0, .i0, .i4⟩] c62)
variable (T:TDisk3 t)
include T
set_option maxRecDepth 4000 in
theorem fits1_call {p a B0 B1 M:Nat} {D:DR} {es:List (Nat × (Nat × Nat))} {fr:List (Nat × Nat)} (hw:H.wf) (hp:p<H.n) (hg:H.get p=D.blk) (hm:H.get D.m = .map (encM (encS es))) (h0:H.get B0 = .cells [.ptr p 0]) (h1:H.get B1 = .cells [.map M]) (hM:H.get M = .map (encM (encC fr))) (hMn:M<H.n)
  (hd0:p≠M) (hd1:D.m≠M) (hd2:B0≠M) (hd3:B1≠M) (hl:nn D.len) (ha:a<18446744073709551616) :
  callP (evP cp t fuel (d+2)) (.func 122 [.ptr B0 0, .ptr B1 0]) [.int 3 a] H k=k (.bool (!decide (a<D.len))) (if (find es a).isSome=true then H else H.put M (.map (encM (encC (cnt fr a))))):=by
 have ht:∀ {k:K},callP (evP cp t fuel (d+1)) (.func 68 []) [.ptr p 0, .int 3 a] H k=k (.bool (decide (a<D.len))) H:=fun {k}=>there_call T.toTDisk hw hp hg hl ha
 have ht2:∀ {x:Blk} {k:K},callP (evP cp t fuel (d+1)) (.func 68 []) [.ptr p 0, .int 3 a] (H.put M x) k=k (.bool (decide (a<D.len))) (H.put M x):=fun {x k}=>there_call T.toTDisk (by rw [Heap.wf_put];exact hw) (by rw [Heap.n_put];exact hp) (by rw [Heap.get_put hw hMn,if_neg hd0];exact hg) hl ha
 have hlk:=lkp_encS es a
 have hlc:=lkp_encC fr a
 rw [call_entry T.fits1 rfl rfl]
 cases hfi:find es a with
 | some q=>
  rw [hfi] at hlk
  simp only [Option.map_some,sv] at hlk
  simp only [go_sem,↓op_app,reduceCtorEq,Nat.reduceAdd,Nat.reduceSub,Nat.reduceMul,Nat.reduceEqDiff,Nat.reduceLT,Nat.reduceDiv,Nat.reduceMod,Nat.reduceLeDiff,↓reduceIte,c61,ht,DR.blk,hg,hm,hw,hp,h0,h1,hlk,Option.isSome_some]
 | none=>
  rw [hfi] at hlk
  simp only [Option.map_none] at hlk
  cases hfc:findC fr a with
  | some q=>
   rw [hfc] at hlc
   simp only [Option.map_some] at hlc
   have hu:=upd_encC fr a ((q+1) % 18446744073709551616)
   simp only [go_sem,↓op_app,reduceCtorEq,Nat.reduceAdd,Nat.reduceSub,Nat.reduceMul,Nat.reduceEqDiff,Nat.reduceLT,Nat.reduceDiv,Nat.reduceMod,Nat.reduceLeDiff,↓reduceIte,c61,ht2,DR.blk,hg,hm,hw,hp,h0,h1,hM,hMn,hd0,hd1,hd2,hd3,hlk,hlc,hu,cnt,hfc,Option.isSome_none,Option.getD_some]
  | none=>
   rw [hfc] at hlc
   simp only [Option.map_none] at hlc
   have hu:=upd_encC fr a 1
   simp only [go_sem,↓op_app,reduceCtorEq,Nat.reduceAdd,Nat.reduceSub,Nat.reduceMul,Nat.reduceEqDiff,Nat.reduceLT,Nat.reduceDiv,Nat.reduceMod,Nat.reduceLeDiff,↓reduceIte,c61,ht2,DR.blk,hg,hm,hw,hp,h0,h1,hM,hMn,hd0,hd1,hd2,hd3,hlk,hlc,hu,cnt,hfc,Option.isSome_none,Option.getD_none]
omit T in
def frs (es:List (Nat × (Nat × Nat))) (ns:List Nat):Nat→List (Nat × Nat)
 | 0 => []
 | i+1=>if (find es (ns.getD i 0)).isSome=true then frs es ns i else cnt (frs es ns i) (ns.getD i 0)
noncomputable def fHs (es:List (Nat × (Nat × Nat))) (ns:List Nat) (G:Heap) (M:Nat):Nat→Heap
 | 0=>G
 | i+1=>if (find es (ns.getD i 0)).isSome=true then fHs es ns G M i else (fHs es ns G M i).put M (.map (encM (encC (frs es ns (i+1)))))
omit T in
theorem fHs_ok {es:List (Nat × (Nat × Nat))} {ns:List Nat} {G:Heap} {M:Nat} (hw:G.wf) (hM:M<G.n) (h0:G.get M = .map []):∀ i,(fHs es ns G M i).wf∧(fHs es ns G M i).n=G.n∧(fHs es ns G M i).get M = .map (encM (encC (frs es ns i))) ∧ ∀ b,b≠M→(fHs es ns G M i).get b=G.get b
 | 0=>⟨hw,rfl,h0,fun _ _=>rfl⟩
 | i+1=>by
  obtain ⟨g1,g2,g3,g4⟩:=fHs_ok hw hM h0 i
  simp only [fHs]
  by_cases h:(find es (ns.getD i 0)).isSome=true
  ·simp only [if_pos h,frs]
   exact ⟨g1,g2,g3,g4⟩
  ·rw [if_neg h]
   have hn:M < (fHs es ns G M i).n:=by rw [g2];exact hM
   exact ⟨by rw [Heap.wf_put];exact g1,by rw [Heap.n_put];exact g2,by rw [Heap.get_put g1 hn,if_pos rfl],fun b hb=>by rw [Heap.get_put g1 hn,if_neg hb];exact g4 b hb⟩
omit T in
theorem updC_length:∀ (D:List (Nat × Nat)) (a v:Nat),(updC D a v).length≤D.length+1
 | [],a,v=>by simp [updC]
 | p :: D,a,v=>by
  have:=updC_length D a v
  simp only [updC]
  split <;> simp <;> omega
omit T in
theorem frs_length {es:List (Nat × (Nat × Nat))} {ns:List Nat}:∀ i,(frs es ns i).length≤i
 | 0=>Nat.le_refl _
 | i+1=>by
  have:=frs_length (es:=es) (ns:=ns) i
  simp only [frs]
  split
  ·omega
  ·have:=updC_length (frs es ns i) (ns.getD i 0) (((findC (frs es ns i) (ns.getD i 0)).getD 0+1) % 18446744073709551616)
   unfold cnt
   omega
omit T in
theorem fHs_lo {es:List (Nat × (Nat × Nat))} {ns:List Nat} {G:Heap} {M lo:Nat} (h1:lo≤G.wlo) (h2:lo≤M):∀ i,lo≤(fHs es ns G M i).wlo
 | 0=>h1
 | i+1=>by
  simp only [fHs]
  split
  ·exact fHs_lo h1 h2 i
  ·exact Heap.lo_put (fHs_lo h1 h2 i) h2
set_option maxRecDepth 4000 in
theorem fits_call {p b off c s:Nat} {D:DR} {es:List (Nat × (Nat × Nat))} {ns:List Nat} {row:List V} (hw:H.wf) (hp:p<H.n) (hg:H.get p=D.blk) (hm:H.get D.m = .map (encM (encS es))) (hmn:D.m<H.n) (hb:H.get b = .cells row) (hbn:b<H.n) (ho:D.off=false) (hl:nn D.len) (hr:nn D.room)
  (hlen:off+ns.length≤row.length) (hrow:∀ i v,ns[i]? = some v→row[off+i]? = some (.int 3 v)) (hns:∀ v ∈ ns,v<D.len) (hnb:ns.length<1000000) (heb:es.length<1000000) (hfu:ns.length<fuel) :
  ∃ H',(∀ (d:Nat) (k:K),callP (evP cp t fuel (d+5)) (.func 78 []) [.ptr p 0, .slice b off ns.length c s] H k=k (.bool (decide ((frs es ns ns.length).length=0∨es.length+(frs es ns ns.length).length≤D.room))) H')∧H'.wf∧H.n≤H'.n∧(∀ j,j<H.n→H'.get j=H.get j) ∧ ∀ lo,lo≤H.wlo→lo≤H.n→lo≤H'.wlo:=by
 have n1:¬ p=H.n:=by omega
 have n2:¬ p=H.n+1:=by omega
 have n3:¬ D.m=H.n:=by omega
 have n4:¬ D.m=H.n+1:=by omega
 have n5:¬ p=H.n+1+1:=by omega
 have n6:¬ D.m=H.n+1+1:=by omega
 have n7:¬ b=H.n:=by omega
 have n8:¬ b=H.n+1:=by omega
 have n9:¬ b=H.n+1+1:=by omega
 have m1:¬ H.n=H.n+1:=by omega
 have m2:¬ H.n=H.n+1+1:=by omega
 have m3:¬ H.n+1=H.n+1+1:=by omega
 have m4:¬ H.n+1+1=H.n+1:=by omega
 have m5:¬ H.n+1+1=H.n:=by omega
 have m6:H.n+1+1<H.n+1+1+1:=by omega
 have m7:¬ H.n+1=H.n:=by omega
 generalize hG:(((H.new (.cells [.ptr p 0])).new (.map [])).new (.cells [.nilm])).put (H.n+1+1) (.cells [.map (H.n+1)])=G
 have gw:G.wf:=by rw [← hG];simp only [Heap.wf_put,Heap.wf_new,hw]
 have gn:G.n=H.n+1+1+1:=by rw [← hG];simp only [Heap.n_put,Heap.n_new]
 have gM:G.get (H.n+1) = .map []:=by rw [← hG];simp only [Heap.get_put,Heap.get_new,Heap.wf_put,Heap.wf_new,Heap.n_put,Heap.n_new,hw,m6,m3,m7,if_false,if_true]
 have g0:G.get H.n = .cells [.ptr p 0]:=by rw [← hG];simp only [Heap.get_put,Heap.get_new,Heap.wf_put,Heap.wf_new,Heap.n_put,Heap.n_new,hw,m6,m1,m2,if_false,if_true]
 have g1:G.get (H.n+1+1) = .cells [.map (H.n+1)]:=by rw [← hG];simp only [Heap.get_put,Heap.get_new,Heap.wf_put,Heap.wf_new,Heap.n_put,Heap.n_new,hw,m6,if_false,if_true]
 have gold:∀ j,j<H.n→G.get j=H.get j:=fun j hj=>by
  have e1:¬ j=H.n:=by omega
  have e2:¬ j=H.n+1:=by omega
  have e3:¬ j=H.n+1+1:=by omega
  rw [← hG]
  simp only [Heap.get_put,Heap.get_new,Heap.wf_put,Heap.wf_new,Heap.n_put,Heap.n_new,hw,m6,e1,e2,e3,if_false]
 have hF:=fHs_ok (es:=es) (ns:=ns) gw (by rw [gn];omega) gM
 obtain ⟨f1,f2,f3,f4⟩:=hF ns.length
 have hlF:=frs_length (es:=es) (ns:=ns) ns.length
 have hc:∀ {d:Nat} {k:K},callP (evP cp t fuel (d+4)) (.func 124 []) [.slice b off ns.length c s, .func 122 [.ptr H.n 0, .ptr (H.n+1+1) 0]] G k=k (.bool false) (fHs es ns G (H.n+1) ns.length):=fun {d k}=>by
  refine contains_none (d:=d+2) (Hs:=fHs es ns G (H.n+1)) (row:=row) T.index T.contains (by omega) hfu (fun i hi => ?_) hlen (fun i v hi hv k => ?_)
  ·rw [(hF i).2.2.2 b n8,gold b hbn];exact hb
  ·obtain ⟨q1,q2,q3,q4⟩:=hF i
   have hvi:ns[i]? = some ns[i]:=List.getElem?_eq_getElem hi
   have hvn:ns.getD i 0=ns[i]:=by rw [List.getD_eq_getElem?_getD,hvi];rfl
   have hv':=hrow i _ hvi
   rw [hv] at hv'
   cases hv'
   have hlt:=hns _ (List.getElem_mem hi)
   rw [fits1_call (d:=d) T (D:=D) (es:=es) (fr:=frs es ns i) q1 (by rw [q2,gn];omega) (by rw [q4 p n2,gold p hp];exact hg) (by rw [q4 D.m n4,gold D.m hmn];exact hm) (by rw [q4 _ m1];exact g0) (by rw [q4 _ m4];exact g1) q3 (by rw [q2,gn];omega) n2 n4 m1 m4 hl (by unfold nn at hl;omega)]
   rw [decide_eq_true hlt]
   simp only [fHs,frs,hvn,Bool.not_true]
   by_cases h:(find es ns[i]).isSome=true
   ·rw [if_pos h,if_pos h]
   ·rw [if_neg h,if_neg h,if_neg h]
 have hs:∀ {d:Nat} {k:K},callP (evP cp t fuel (d+4)) (.func 44 []) [.ptr p 0] (H.new (.cells [.ptr p 0])) k=k (.int 3 0) (H.new (.cells [.ptr p 0])):=fun {d k}=>by
  rw [state_call T.toTDisk (D:=D) (by simp only [Heap.wf_new,hw]) (by simp only [Heap.n_new];omega) (by rw [Heap.get_new hw,if_neg n1];exact hg),ho]
  rfl
 generalize hFn:(frs es ns ns.length).length=F at hlF
 have hFl:(encM (encC (frs es ns ns.length))).length=F:=by simp only [encM,encC,List.length_map,hFn]
 have hel:(encM (encS es)).length=es.length:=by simp [encM,encS]
 have hFnn:nn F:=by unfold nn;omega
 have hFb:F<9223372036854775808:=by omega
 have heb':es.length<9223372036854775808:=by omega
 have hp':(fHs es ns G (H.n+1) ns.length).get p=D.blk:=by rw [f4 p n2,gold p hp];exact hg
 have hm':(fHs es ns G (H.n+1) ns.length).get D.m = .map (encM (encS es)):=by rw [f4 _ n4,gold _ hmn];exact hm
 have h0':(fHs es ns G (H.n+1) ns.length).get H.n = .cells [.ptr p 0]:=by rw [f4 _ m1];exact g0
 have h1':(fHs es ns G (H.n+1) ns.length).get (H.n+1+1) = .cells [.map (H.n+1)]:=by rw [f4 _ m4];exact g1
 refine ⟨fHs es ns G (H.n+1) ns.length,fun d k => ?_,f1,by rw [f2,gn];omega,fun j hj=>by rw [f4 j (by omega),gold j hj],fun lo h1 h2=>fHs_lo (by rw [← hG];exact Heap.lo_put (Heap.lo_new (Heap.lo_new (Heap.lo_new h1))) (by omega)) (by omega) _⟩
 rw [call_entry T.fits rfl rfl]
 generalize fHs es ns G (H.n+1) ns.length=G' at *
 by_cases hz:F=0
 ·simp only [go_sem,↓op_app,reduceCtorEq,Nat.reduceAdd,Nat.reduceSub,Nat.reduceMul,Nat.reduceEqDiff,Nat.reduceLT,Nat.reduceDiv,Nat.reduceMod,Nat.reduceLeDiff,↓reduceIte,c39,hs,hw,n1,m6,m3,m7,hG,hc,h1',f3,hFl,hFb,hz,decide_true,true_or]
 ·by_cases hle:es.length≤D.room
  ·have e1:nn (D.room-es.length):=by unfold nn at *;omega
   have e2:(F≤D.room-es.length)=(es.length+F≤D.room):=propext ⟨fun h=>by omega,fun h=>by omega⟩
   by_cases hh:es.length+F≤D.room
   ·simp only [go_sem,↓op_app,reduceCtorEq,Nat.reduceAdd,Nat.reduceSub,Nat.reduceMul,Nat.reduceEqDiff,Nat.reduceLT,Nat.reduceDiv,Nat.reduceMod,Nat.reduceLeDiff,↓reduceIte,c39,hs,hw,n1,m6,m3,m7,hG,hc,h1',h0',f1,f3,hp',hm',DR.blk,hFl,hFb,hel,heb',hFnn,hz,hle,hr,e1,e2,hh,decide_true,false_or]
   ·simp only [go_sem,↓op_app,reduceCtorEq,Nat.reduceAdd,Nat.reduceSub,Nat.reduceMul,Nat.reduceEqDiff,Nat.reduceLT,Nat.reduceDiv,Nat.reduceMod,Nat.reduceLeDiff,↓reduceIte,c39,hs,hw,n1,m6,m3,m7,hG,hc,h1',h0',f1,f3,hp',hm',DR.blk,hFl,hFb,hel,heb',hFnn,hz,hle,hr,e1,e2,hh,decide_false,false_or]
  ·have hh:¬ es.length+F≤D.room:=by omega
   have e3:(evCF (.le 9223372036854775808 18446744073709551616) F ((D.room+(18446744073709551616-es.length)) % 18446744073709551616)=true)=False:=by
    rw [cf_le]
    unfold nn at hr
    exact propext ⟨fun h=>by omega,False.elim⟩
   simp only [go_sem,↓op_app,reduceCtorEq,Nat.reduceAdd,Nat.reduceSub,Nat.reduceMul,Nat.reduceEqDiff,Nat.reduceLT,Nat.reduceDiv,Nat.reduceMod,Nat.reduceLeDiff,↓reduceIte,c39,hs,hw,n1,m6,m3,m7,hG,hc,h1',h0',f1,f3,hp',hm',DR.blk,hFl,hFb,hel,heb',hz,hh,e3,decide_false,false_or]
end
end Go.Ev
end
section
namespace Go.Ev
section
variable {cp:RC→CodeE} {t:Nat→Option FnE} {fuel d:Nat} {H:Heap} {k:K}
abbrev HasClone (t:Nat→Option FnE):Prop:=t=t
structure TDisk4 (t:Nat→Option FnE):Prop extends TDisk3 t where
 new:t 13=some (.code [⟨.i0, .i0, .i0⟩,⟨.i0, .i0, .i1⟩] [.tmp ⟨.i0, .i0, .i4⟩] c13)
variable (T:TDisk4 t)
include T
theorem new_call {n r:Nat} (hw:H.wf) (h1:1≤n) (h2:n≤1024) (hr:nn r) :
  callP (evP cp t fuel (d+1)) (.func 26 []) [.int 3 n, .int 3 r] H k=k (.ptr (H.n+1) 0) ((H.new (.map [])).new (DR.mk H.n .nils n r 0 false).blk):=by
 have h5:nn 0:=by unfold nn;decide
 have h6:nn 1:=by unfold nn;decide
 have h7:nn 1024:=by unfold nn;decide
 have h8:nn n:=by unfold nn;omega
 have e1:¬ n<1:=by omega
 have e2:¬ 1024<n:=by omega
 have e3:¬ r<0:=by omega
 rw [call_entry T.new rfl rfl]
 simp only [go_sem,↓op_app,reduceCtorEq,Nat.reduceAdd,Nat.reduceSub,Nat.reduceMul,Nat.reduceEqDiff,Nat.reduceLT,Nat.reduceDiv,Nat.reduceMod,Nat.reduceLeDiff,↓reduceIte,c13,DR.blk,hw,hr,h5,h6,h7,h8,e1,e2,e3]
end
end Go.Ev
end
section
namespace Go.Ev
abbrev Tx:=Nat × Nat
structure AD where
 len:Nat
 room:Nat
 fuse:Nat
 off:Bool
 es:List (Nat × Tx)
 us:List (Nat × Tx × Bool)
def encU1 (u:Nat × Tx × Bool):List V:=[.int 3 u.1,sv u.2.1, .bool u.2.2]
def encU (us:List (Nat × Tx × Bool)):List V:=us.flatMap encU1
theorem encU_length (us:List (Nat × Tx × Bool)):(encU us).length=us.length * 3:=by
 induction us with
 | nil=>rfl
 | cons u us ih=>simp only [encU,List.flatMap_cons,List.length_append,List.length_cons] at ih ⊢;rw [ih];simp only [encU1,List.length_cons,List.length_nil];omega
theorem encU_one (us:List (Nat × Tx × Bool)):∀ v ∈ encU us,v.one=true:=by
 intro v hv
 simp only [encU,List.mem_flatMap,encU1,List.mem_cons,List.not_mem_nil,or_false] at hv
 obtain ⟨u,_,rfl | rfl | rfl⟩:=hv <;> rfl
def Disk (H:Heap) (p:Nat) (A:AD) (O:Nat→Prop):Prop:=
 ∃ D:DR,DiskIs H p D A.es (encU A.us)∧D.len=A.len∧D.room=A.room∧D.fuse=A.fuse∧D.off=A.off∧O=D.owns p
structure Step (H:Heap) (O:Nat→Prop) (H':Heap) (O':Nat→Prop):Prop where
 wf:H'.wf
 n:H.n≤H'.n
 same:∀ b,b<H.n → ¬ O b→H'.get b=H.get b ∧ ¬ O' b
 lo:∀ lo,lo≤H.wlo→lo≤H.n→(∀ b,O b→lo≤b)→lo≤H'.wlo ∧ ∀ b,O' b→lo≤b
theorem Step.refl {H:Heap} {O:Nat→Prop} (h:H.wf):Step H O H O:=⟨h,Nat.le_refl _,fun _ _ h=>⟨rfl,h⟩,fun _ h _ h'=>⟨h,h'⟩⟩
theorem Step.trans {H H1 H2:Heap} {O O1 O2:Nat→Prop} (h:Step H O H1 O1) (g:Step H1 O1 H2 O2):Step H O H2 O2:=
 ⟨g.wf,Nat.le_trans h.n g.n,fun b hb ho=>let ⟨e,o⟩:=h.same b hb ho;let ⟨e',o'⟩:=g.same b (Nat.lt_of_lt_of_le hb h.n) o; ⟨e'.trans e,o'⟩,
  fun lo h1 h2 h3=>let ⟨e,o⟩:=h.lo lo h1 h2 h3;g.lo lo e (Nat.le_trans h2 h.n) o⟩
structure Fresh (H H':Heap):Prop where
 wf:H'.wf
 n:H.n≤H'.n
 same:∀ b,b<H.n→H'.get b=H.get b
 lo:∀ lo,lo≤H.wlo→lo≤H.n→lo≤H'.wlo
theorem Fresh.refl {H:Heap} (h:H.wf):Fresh H H:=⟨h,Nat.le_refl _,fun _ _=>rfl,fun _ h _=>h⟩
theorem Fresh.trans {H H1 H2:Heap} (h:Fresh H H1) (g:Fresh H1 H2):Fresh H H2:=
 ⟨g.wf,Nat.le_trans h.n g.n,fun b hb=>(g.same b (Nat.lt_of_lt_of_le hb h.n)).trans (h.same b hb),fun lo h1 h2=>g.lo lo (h.lo lo h1 h2) (Nat.le_trans h2 h.n)⟩
theorem Fresh.new {H:Heap} {x:Blk} (h:H.wf):Fresh H (H.new x):=
 ⟨by rw [Heap.wf_new];exact h,by rw [Heap.n_new];omega,fun b hb=>by rw [Heap.get_new h,if_neg (by omega)],fun _ h _=>h⟩
theorem Fresh.put {H H1:Heap} {b:Nat} {x:Blk} (h:Fresh H H1) (h1:H.n≤b) (h2:b<H1.n):Fresh H (H1.put b x):=
 ⟨by rw [Heap.wf_put];exact h.wf,by rw [Heap.n_put];exact h.n,fun j hj=>by rw [Heap.get_put h.wf h2,if_neg (by omega)];exact h.same j hj,fun lo h3 h4=>Heap.lo_put (h.lo lo h3 h4) (by omega)⟩
theorem Fresh.step {H H':Heap} {O:Nat→Prop} (h:Fresh H H'):Step H O H' O:=⟨h.wf,h.n,fun b hb ho=>⟨h.same b hb,ho⟩,fun lo h1 h2 h3=>⟨h.lo lo h1 h2,h3⟩⟩
theorem Disk.wf {H:Heap} {p:Nat} {A:AD} {O:Nat→Prop} (h:Disk H p A O):H.wf:=let ⟨_,h,_⟩:=h;h.wf
theorem Disk.lt {H:Heap} {p:Nat} {A:AD} {O:Nat→Prop} (h:Disk H p A O):∀ b,O b→b<H.n:=by
 obtain ⟨D,h,_,_,_,_,rfl⟩:=h
 rintro b (e | e | ⟨o,m,c,s,e⟩)
 ·rw [e];exact h.hp
 ·rw [e];exact h.hmn
 ·rcases h.undo with ⟨hu,_⟩ | ⟨ub,n,hu,_,_,_,hub,_⟩
  ·rw [hu] at e;cases e
  ·rw [hu] at e;cases e;exact hub
theorem Disk.keep {H H':Heap} {p:Nat} {A:AD} {O Q Q':Nat→Prop} (h:Disk H p A O) (s:Step H Q H' Q') (hd:∀ b,O b → ¬ Q b):Disk H' p A O ∧ ∀ b,O b → ¬ Q' b:=by
 refine ⟨?_,fun b hb=>(s.same b (h.lt b hb) (hd b hb)).2⟩
 obtain ⟨D,h,h1,h2,h3,h4,rfl⟩:=h
 refine ⟨D,⟨s.wf,Nat.lt_of_lt_of_le h.hp s.n, ?_, ?_,Nat.lt_of_lt_of_le h.hmn s.n,h.hmp, ?_,h.hl,h.hr,h.hf,h.he⟩,h1,h2,h3,h4,rfl⟩
 ·rw [(s.same p h.hp (hd p (Or.inl rfl))).1];exact h.hg
 ·rw [(s.same _ h.hmn (hd _ (Or.inr (Or.inl rfl)))).1];exact h.hm
 ·rcases h.undo with hu | ⟨ub,n,hu,g1,g2,g3,g4,g5⟩
  ·exact Or.inl hu
  ·exact Or.inr ⟨ub,n,hu,g1,g2,by rw [(s.same ub g4 (hd ub (Or.inr (Or.inr ⟨_,_,_,_,hu⟩)))).1];exact g3,Nat.lt_of_lt_of_le g4 s.n,g5⟩
theorem Disk.fresh {H H':Heap} {p:Nat} {A:AD} {O:Nat→Prop} (h:Disk H p A O) (s:Fresh H H'):Disk H' p A O:=
 (h.keep (Q:=fun _=>False) (s.step) fun _ _ h=>h).1
theorem Disk.own {H:Heap} {p:Nat} {A:AD} {O:Nat→Prop} (h:Disk H p A O):O p:=by
 obtain ⟨D,h,_,_,_,_,rfl⟩:=h
 exact Or.inl rfl
def AD.dark (A:AD):AD:={ A with fuse:=0,off:=true }
def AD.write (A:AD) (a:Nat) (x:Nat):AD × Nat:=
 if A.fuse=1 then (A.dark,6) else
  ({ A with fuse:=A.fuse-1,us:=A.us ++ [(a,(find A.es a).getD (0,0),(find A.es a).isSome)],es:=updS A.es a (32,x) },0)
def AD.flush (A:AD):AD × Nat:=if A.fuse=1 then (A.dark,6) else ({ A with fuse:=A.fuse-1,us:=[] },0)
def AD.read (A:AD) (a:Nat):Tx:=(find A.es a).getD (32,0)
section
variable {cp:RC→CodeE} {t:Nat→Option FnE} {fuel:Nat} {H:Heap}
theorem burn_off (T:TDisk4 t) {p d:Nat} {D:DR} {k:K} (hw:H.wf) (hp:p<H.n) (hg:H.get p=D.blk) (hf:D.fuse=1) :
  callP (evP cp t fuel (d+2)) (.func 152 []) [.ptr p 0] H k=k (.int 3 6) (H.put p { D with fuse:=0,off:=true }.blk):=by
 have h5:nn 0:=by unfold nn;decide
 have hs:∀ {k:K},callP (evP cp t fuel (d+1)) (.func 44 []) [.ptr p 0] (H.put p { D with fuse:=0,off:=true }.blk) k=k (.int 3 6) (H.put p { D with fuse:=0,off:=true }.blk):=fun {k}=>by
  rw [state_call T.toTDisk (D:={ D with fuse:=0,off:=true }) (by rw [Heap.wf_put];exact hw) (by rw [Heap.n_put];exact hp) (by rw [Heap.get_put hw hp,if_pos rfl])]
  rfl
 have ho:∀ {x:Blk} {k:K},x = { D with fuse:=0 }.blk→callP (evP cp t fuel (d+1)) (.func 20 []) [.ptr p 0] (H.put p x) k=k (.tup []) (H.put p { D with fuse:=0,off:=true }.blk):=fun {x k} hx=>by
  rw [off_call T.toTDisk (D:={ D with fuse:=0 }) (by rw [Heap.wf_put];exact hw) (by rw [Heap.n_put];exact hp) (by rw [Heap.get_put hw hp,if_pos rfl];exact hx),Heap.put_put]
 have ho':=fun {k:K}=>ho (k:=k) (x:={ D with fuse:=0 }.blk) rfl
 simp only [DR.blk] at hs ho'
 rw [call_entry T.burn rfl rfl]
 have h4:max 0 0=0:=rfl
 simp only [go_sem,↓op_app,reduceCtorEq,Nat.reduceAdd,Nat.reduceSub,Nat.reduceMul,Nat.reduceEqDiff,Nat.reduceLT,Nat.reduceDiv,Nat.reduceMod,Nat.reduceLeDiff,↓reduceIte,c76,DR.blk,hg,hw,hp,hf,h4,h5,hs,ho']
theorem write_off (T:TDisk4 t) {p d a x:Nat} {D:DR} {es:List (Nat × (Nat × Nat))} {k:K} (hw:H.wf) (hp:p<H.n) (hg:H.get p=D.blk) (hm:H.get D.m = .map (encM (encS es))) (hmn:D.m<H.n) (hmp:D.m≠p) (ho:D.off=false) (hf:D.fuse=1) (hl:nn D.len) (hr:nn D.room) (he:es.length<9223372036854775808)
  (ha:a<D.len) (hroom:(find es a).isSome=true∨es.length<D.room) :
  callP (evP cp t fuel (d+3)) (.func 126 []) [.ptr p 0, .int 3 a, .str 32 x] H k=k (.int 3 6) (H.put p { D with fuse:=0,off:=true }.blk):=by
 have hs:∀ {k:K},callP (evP cp t fuel (d+2)) (.func 44 []) [.ptr p 0] H k=k (.int 3 0) H:=fun {k}=>by
  rw [state_call T.toTDisk hw hp hg,ho]
  rfl
 have ht:∀ {k:K},callP (evP cp t fuel (d+2)) (.func 68 []) [.ptr p 0, .int 3 a] H k=k (.bool true) H:=fun {k}=>by
  rw [there_call T.toTDisk hw hp hg hl (by unfold nn at hl;omega),decide_eq_true ha]
 have hb:∀ {k:K},callP (evP cp t fuel (d+2)) (.func 152 []) [.ptr p 0] H k=k (.int 3 6) (H.put p { D with fuse:=0,off:=true }.blk):=fun {k}=>burn_off T hw hp hg hf
 rw [call_entry T.write rfl rfl]
 simp only [DR.blk] at hb
 have hlk:=lkp_encS es a
 have hel:(encM (encS es)).length=es.length:=by simp [encM,encS]
 have hnn:nn es.length:=by unfold nn;omega
 cases hfi:find es a with
 | some q=>
  rw [hfi] at hlk
  simp only [Option.map_some,sv] at hlk
  simp only [go_sem,↓op_app,reduceCtorEq,Nat.reduceAdd,Nat.reduceSub,Nat.reduceMul,Nat.reduceEqDiff,Nat.reduceLT,Nat.reduceDiv,Nat.reduceMod,Nat.reduceLeDiff,↓reduceIte,c63,hs,ht,hb,DR.blk,hg,hm,hw,hp,hmn,hmp,ho,hlk]
 | none=>
  rw [hfi] at hlk
  simp only [Option.map_none] at hlk
  have hrm:¬ D.room≤es.length:=by
   rcases hroom with h | h
   ·rw [hfi] at h;cases h
   ·omega
  simp only [go_sem,↓op_app,reduceCtorEq,Nat.reduceAdd,Nat.reduceSub,Nat.reduceMul,Nat.reduceEqDiff,Nat.reduceLT,Nat.reduceDiv,Nat.reduceMod,Nat.reduceLeDiff,↓reduceIte,c63,hs,ht,hb,DR.blk,hg,hm,hw,hp,hmn,hmp,ho,hlk,hel,hnn,hr,he,hrm]
theorem flush_off (T:TDisk4 t) {p d:Nat} {D:DR} {k:K} (hw:H.wf) (hp:p<H.n) (hg:H.get p=D.blk) (ho:D.off=false) (hf:D.fuse=1) :
  callP (evP cp t fuel (d+3)) (.func 128 []) [.ptr p 0] H k=k (.int 3 6) (H.put p { D with fuse:=0,off:=true }.blk):=by
 have hs:∀ {k:K},callP (evP cp t fuel (d+2)) (.func 44 []) [.ptr p 0] H k=k (.int 3 0) H:=fun {k}=>by
  rw [state_call T.toTDisk hw hp hg,ho]
  rfl
 have hb:∀ {k:K},callP (evP cp t fuel (d+2)) (.func 152 []) [.ptr p 0] H k=k (.int 3 6) (H.put p { D with fuse:=0,off:=true }.blk):=fun {k}=>burn_off T hw hp hg hf
 simp only [DR.blk] at hb
 rw [call_entry T.flush rfl rfl]
 simp only [go_sem,↓op_app,reduceCtorEq,Nat.reduceAdd,Nat.reduceSub,Nat.reduceMul,Nat.reduceEqDiff,Nat.reduceLT,Nat.reduceDiv,Nat.reduceMod,Nat.reduceLeDiff,↓reduceIte,c64,hs,hb,DR.blk,hg,hw,hp,ho]
theorem Disk.put {p:Nat} {D:DR} {es:List (Nat × Tx)} {us:List V} (h:DiskIs H p D es us) {r f:Nat} {o:Bool} (hr:nn r) (hf:nn f) :
  DiskIs (H.put p { D with room:=r,fuse:=f,off:=o }.blk) p { D with room:=r,fuse:=f,off:=o } es us∧Step H (D.owns p) (H.put p { D with room:=r,fuse:=f,off:=o }.blk) (D.owns p):=by
 have hw:=h.wf
 have hp:=h.hp
 have e1:∀ b,b≠p→(H.put p { D with room:=r,fuse:=f,off:=o }.blk).get b=H.get b:=fun b hb=>by rw [Heap.get_put hw hp,if_neg hb]
 refine ⟨⟨by rw [Heap.wf_put];exact hw,by rw [Heap.n_put];exact hp,by rw [Heap.get_put hw hp,if_pos rfl],(e1 _ h.hmp).trans h.hm,by rw [Heap.n_put];exact h.hmn,h.hmp, ?_,h.hl,hr,hf,h.he⟩,by rw [Heap.wf_put];exact hw,by rw [Heap.n_put];exact Nat.le_refl _,fun b hb ho=>⟨e1 b fun e=>ho (Or.inl e),ho⟩,fun lo h1 h2 h3=>⟨Heap.lo_put h1 (h3 p (Or.inl rfl)),h3⟩⟩
 rcases h.undo with hu | ⟨ub,n,hu,g1,g2,g3,g4,g5,g6⟩
 ·exact Or.inl hu
 ·exact Or.inr ⟨ub,n,hu,g1,g2,(e1 ub g5).trans g3,by rw [Heap.n_put];exact g4,g5,g6⟩
theorem write_call (T:TDisk4 t) {p a x:Nat} {A:AD} {O:Nat→Prop} (h:Disk H p A O) (ho:A.off=false) (hub:A.us.length<100000) (heb:A.es.length<1000000) (ha:a<A.len) (hroom:(find A.es a).isSome=true∨A.es.length<A.room) :
  ∃ H' O',(∀ (d:Nat) (k:K),callP (evP cp t fuel (d+3)) (.func 126 []) [.ptr p 0, .int 3 a, .str 32 x] H k=k (.int 3 (A.write a x).2) H')∧Disk H' p (A.write a x).1 O'∧Step H O H' O':=by
 obtain ⟨D,h,h1,h2,h3,h4,rfl⟩:=h
 by_cases hf:A.fuse=1
 ·obtain ⟨g1,g2⟩:=Disk.put h (r:=D.room) (f:=0) (o:=true) h.hr (by unfold nn;omega)
  refine ⟨_,DR.owns D p,fun d k => ?_,⟨{ D with fuse:=0,off:=true }, ?_, ?_⟩,g2⟩
  ·rw [write_off T h.wf h.hp h.hg h.hm h.hmn h.hmp (h4.trans ho) (h3.trans hf) h.hl h.hr h.he (by omega) (by rw [h2];exact hroom)]
   simp only [AD.write,if_pos hf]
  ·simp only [AD.write,if_pos hf,AD.dark];exact g1
  ·rw [show (A.write a x).1=A.dark by simp only [AD.write,if_pos hf]];exact ⟨h1,h2,rfl,rfl,rfl⟩
 ·obtain ⟨H',D',g1,g2,g3,g4,g5,g6,g7,g8,g9,g10⟩:=write_ok (cp:=cp) (fuel:=fuel) T.toTDisk (a:=a) (x:=x) h (h4.trans ho) (by rw [h3];exact hf) (by rw [encU_length];omega) heb (by omega) (by rw [h2];exact hroom)
  refine ⟨H',D'.owns p,fun d k => ?_,⟨D', ?_, ?_⟩,g2.wf,g8,g9,g10⟩
  ·rw [g1];simp only [AD.write,if_neg hf]
  ·simp only [AD.write,if_neg hf]
   have:encU (A.us ++ [(a,(find A.es a).getD (0,0),(find A.es a).isSome)])=encU A.us ++ [.int 3 a,sv ((find A.es a).getD (0,0)), .bool (find A.es a).isSome]:=by
    simp only [encU,List.flatMap_append,List.flatMap_cons,List.flatMap_nil,List.append_nil,encU1]
   rw [this]
   exact g2
  ·simp only [AD.write,if_neg hf]
   exact ⟨g4.trans h1,g5.trans h2,by rw [g6,h3],g7.trans ho.symm,trivial⟩
theorem flush_all (T:TDisk4 t) {p:Nat} {A:AD} {O:Nat→Prop} (h:Disk H p A O) (ho:A.off=false) :
  ∃ H' O',(∀ (d:Nat) (k:K),callP (evP cp t fuel (d+3)) (.func 128 []) [.ptr p 0] H k=k (.int 3 A.flush.2) H')∧Disk H' p A.flush.1 O'∧Step H O H' O':=by
 obtain ⟨D,h,h1,h2,h3,h4,rfl⟩:=h
 have hw:=h.wf
 have hp:=h.hp
 by_cases hf:A.fuse=1
 ·obtain ⟨g1,g2⟩:=Disk.put h (r:=D.room) (f:=0) (o:=true) h.hr (by unfold nn;omega)
  refine ⟨_,DR.owns D p,fun d k => ?_,⟨{ D with fuse:=0,off:=true }, ?_, ?_⟩,g2⟩
  ·rw [flush_off T h.wf h.hp h.hg (h4.trans ho) (h3.trans hf)]
   simp only [AD.flush,if_pos hf]
  ·simp only [AD.flush,if_pos hf,AD.dark];exact g1
  ·rw [show A.flush.1=A.dark by simp only [AD.flush,if_pos hf]];exact ⟨h1,h2,rfl,rfl,rfl⟩
 ·have e1:∀ b,b≠p→(H.put p { D with fuse:=D.fuse-1,u := .nils }.blk).get b=H.get b:=fun b hb=>by rw [Heap.get_put hw hp,if_neg hb]
  refine ⟨H.put p (DR.blk { D with fuse:=D.fuse-1,u := .nils }),DR.owns { D with fuse:=D.fuse-1,u := .nils } p,fun d k => ?_,⟨{ D with fuse:=D.fuse-1,u := .nils }, ?_, ?_⟩, ?_⟩
  ·rw [flush_call T.toTDisk2 hw hp h.hg (h4.trans ho) (by rw [h3];exact hf) h.hf]
   simp only [AD.flush,if_neg hf]
  ·simp only [AD.flush,if_neg hf]
   exact ⟨by rw [Heap.wf_put];exact hw,by rw [Heap.n_put];exact hp,by rw [Heap.get_put hw hp,if_pos rfl],(e1 _ h.hmp).trans h.hm,by rw [Heap.n_put];exact h.hmn,h.hmp,Or.inl ⟨rfl,rfl⟩,h.hl,h.hr,by have:=h.hf;unfold nn at *;show D.fuse-1<_;omega,h.he⟩
  ·simp only [AD.flush,if_neg hf]
   exact ⟨h1,h2,by rw [h3],h4,trivial⟩
  ·refine ⟨by rw [Heap.wf_put];exact hw,by rw [Heap.n_put];exact Nat.le_refl _,fun b hb hno=>⟨e1 b fun e=>hno (Or.inl e), ?_⟩,fun lo h1 h2 h3=>⟨Heap.lo_put h1 (h3 p (Or.inl rfl)), ?_⟩⟩
   ·rintro (e | e | ⟨o,m,c,s,e⟩)
    ·exact hno (Or.inl e)
    ·exact hno (Or.inr (Or.inl e))
    ·cases e
   ·rintro b (e | e | ⟨o,m,c,s,e⟩)
    ·exact h3 b (Or.inl e)
    ·exact h3 b (Or.inr (Or.inl e))
    ·cases e
theorem read_all (T:TDisk4 t) {p a:Nat} {A:AD} {O:Nat→Prop} (h:Disk H p A O) (ho:A.off=false) (ha:a<A.len) :
  ∃ H',(∀ (d:Nat) (k:K),callP (evP cp t fuel (d+3)) (.func 36 []) [.ptr p 0, .int 3 a] H k=k (.tup [sv (A.read a), .int 3 0]) H')∧Fresh H H':=by
 obtain ⟨D,h,h1,h2,h3,h4,rfl⟩:=h
 refine ⟨_,fun d k=>read_call T.toTDisk2 h.wf h.hp h.hg h.hm (h4.trans ho) h.hl (by omega), ?_⟩
 split
 ·exact Fresh.refl h.wf
 ·exact Fresh.new h.wf
theorem on_all (T:TDisk4 t) {p d:Nat} {k:K} {A:AD} {O:Nat→Prop} (h:Disk H p A O) :
  callP (evP cp t fuel (d+2)) (.func 30 []) [.ptr p 0] H k=k (.bool (!A.off)) H:=by
 obtain ⟨D,h,h1,h2,h3,h4,rfl⟩:=h
 rw [on_call T.toTDisk2 h.wf h.hp h.hg,h4]
theorem len_all (T:TDisk4 t) {p d:Nat} {k:K} {A:AD} {O:Nat→Prop} (h:Disk H p A O) :
  callP (evP cp t fuel (d+1)) (.func 58 []) [.ptr p 0] H k=k (.int 3 A.len) H:=by
 obtain ⟨D,h,h1,h2,h3,h4,rfl⟩:=h
 rw [len_call T.toTDisk2 h.wf h.hp h.hg,h1]
theorem new_all (T:TDisk4 t) {n r:Nat} (hw:H.wf) (h1:1≤n) (h2:n≤1024) (hr:nn r) :
  ∃ H' p O,(∀ (d:Nat) (k:K),callP (evP cp t fuel (d+1)) (.func 26 []) [.int 3 n, .int 3 r] H k=k (.ptr p 0) H')∧Disk H' p ⟨n,r,0,false,[],[]⟩ O∧Fresh H H' ∧ ∀ b,O b→H.n≤b:=by
 refine ⟨_,H.n+1,DR.owns ⟨H.n, .nils,n,r,0,false⟩ (H.n+1),fun d k=>new_call T hw h1 h2 hr,⟨⟨H.n, .nils,n,r,0,false⟩,⟨by simp only [Heap.wf_new,hw],by simp only [Heap.n_new];omega, ?_, ?_,by simp only [Heap.n_new];omega,by show H.n≠H.n+1;omega,Or.inl ⟨rfl,rfl⟩,by show nn n;unfold nn;omega,hr,by show nn 0;unfold nn;omega,by show 0<_;omega⟩,rfl,rfl,rfl,rfl,rfl⟩,Fresh.trans (Fresh.new hw) (Fresh.new (by rw [Heap.wf_new];exact hw)), ?_⟩
 ·rw [Heap.get_new (by rw [Heap.wf_new];exact hw),if_pos (by rw [Heap.n_new])]
 ·rw [Heap.get_new (by rw [Heap.wf_new];exact hw),if_neg (by rw [Heap.n_new];show H.n≠H.n+1;omega),Heap.get_new hw,if_pos rfl];rfl
 ·rintro b (e | e | ⟨o,m,c,s,e⟩)
  ·omega
  ·have:b=H.n:=e;omega
  ·cases e
end
end Go.Ev
end
section
namespace Go.Ev
theorem TCode.disk4 {t:Nat→Option FnE} (T:TCode t) (h:HasClone t):TDisk4 t:=
 {off:=T.k10,state:=T.k22,burn:=T.k76,there:=T.k34,write:=T.k63,
  flush:=T.k64,read:=T.k18,
  len:=T.k29,on:=T.k15,
  fits:=T.k39,fits1:=T.k61,index:=T.k75,contains:=T.k62,
  new:=T.k13 }
abbrev Wr:=Nat × Tx
def encW1 (w:Wr):List V:=[.int 3 w.1, .str w.2.1 w.2.2]
def encW (ws:List Wr):List V:=ws.flatMap encW1
theorem encW_cons (w:Wr) (ws:List Wr):encW (w :: ws) = .int 3 w.1 :: .str w.2.1 w.2.2 :: encW ws:=rfl
theorem encW_append (ws us:List Wr):encW (ws ++ us)=encW ws ++ encW us:=by simp only [encW,List.flatMap_append]
theorem encW_length (ws:List Wr):(encW ws).length=ws.length * 2:=by
 induction ws with
 | nil=>rfl
 | cons w ws ih=>rw [encW_cons];simp only [List.length_cons,ih];omega
theorem encW_drop (pre ws:List Wr):(encW (pre ++ ws)).drop (pre.length * 2)=encW ws:=by
 rw [encW_append,← encW_length,List.drop_left]
def WsAt (H:Heap) (v:V) (ws:List Wr) (O:Nat→Prop):Prop:=(v = .nils∧ws=[]) ∨ ∃ b c s,v = .slice b 0 ws.length c s∧H.get b = .cells (encW ws)∧b<H.n ∧ ¬ O b
theorem WsAt.keep {H H':Heap} {v:V} {ws:List Wr} {O O':Nat→Prop} (h:WsAt H v ws O) (s:Step H O H' O'):WsAt H' v ws O':=by
 rcases h with h | ⟨b,c,z,h1,h2,h3,h4⟩
 ·exact Or.inl h
 ·exact Or.inr ⟨b,c,z,h1,by rw [(s.same b h3 h4).1];exact h2,Nat.lt_of_lt_of_le h3 s.n,(s.same b h3 h4).2⟩
theorem WsAt.fresh {H H':Heap} {v:V} {ws:List Wr} {O:Nat→Prop} (h:WsAt H v ws O) (s:Fresh H H'):WsAt H' v ws O:=h.keep s.step
def encO (l:List Nat):List (Nat × V):=l.map fun a=>(a, .int 3 1)
theorem lkp_encO:∀ (l:List Nat) (a:Nat),lkp (encO l) a=if a ∈ l then some (.int 3 1) else none
 | [],a=>rfl
 | b :: l,a=>by
  have ih:=lkp_encO l a
  unfold lkp encO at *
  simp only [List.map_cons,List.find?_cons,List.mem_cons]
  by_cases h:a=b
  ·subst h;simp
  ·have hb:(b == a)=false:=by simpa using fun e=>h e.symm
   simp only [hb,h,false_or]
   exact ih
theorem upd_encO:∀ (l:List Nat) (a:Nat),a ∉ l→upd (encO l) a (.int 3 1)=encO (l ++ [a])
 | [],a,_=>rfl
 | b :: l,a,h=>by
  have hb:¬ b=a:=fun e=>h (by simp [e])
  have ih:=upd_encO l a fun h'=>h (List.mem_cons_of_mem _ h')
  simp only [encO,List.map_cons,List.cons_append,upd,hb,if_false]
  simp only [encO] at ih
  rw [ih]
def goodW (len:Nat) (w:Wr):Prop:=145≤w.1∧w.1<len∧w.2.1=32
instance (len:Nat) (w:Wr):Decidable (goodW len w):=by unfold goodW;infer_instance
def mayP (len:Nat):List Nat→List Wr→Bool
 | _,[]=>true
 | seen,w :: ws=>if goodW len w∧w.1 ∉ seen then mayP len (seen ++ [w.1]) ws else false
section
variable {cp:RC→CodeE} {t:Nat→Option FnE} {fuel:Nat} {H:Heap}
theorem ready_call (T:TCode t) (hc:HasClone t) {p d:Nat} {A:AD} {O:Nat→Prop} {k:K} (h:Disk H p A O) :
  callP (evP cp t fuel (d+3)) (.func 70 []) [.ptr p 0] H k=k (.int 3 (if A.off=true then 6 else 0)) H:=by
 have ho:∀ {k:K},callP (evP cp t fuel (d+2)) (.func 30 []) [.ptr p 0] H k=k (.bool (!A.off)) H:=fun {k}=>on_all (T.disk4 hc) h
 rw [call_entry T.k35 rfl rfl]
 cases hA:A.off <;> rw [hA] at ho <;> simp only [go_sem,↓op_app,reduceCtorEq,Nat.reduceAdd,Nat.reduceSub,Nat.reduceMul,Nat.reduceEqDiff,Nat.reduceLT,Nat.reduceDiv,Nat.reduceMod,Nat.reduceLeDiff,↓reduceIte,c35,ho]
end
end Go.Ev
end
section
namespace Go.Ev
section
variable {cp:RC→CodeE} {t:Nat→Option FnE} {fuel:Nat} {H:Heap}
set_option maxRecDepth 4000 in
set_option maxHeartbeats 2000000 in
theorem may_round (T:TCode t) (hc:HasClone t) {d p b c s M i n:Nat} {A:AD} {O:Nat→Prop} {G:Heap} {w:Wr} {pre ws:List Wr} {seen:List Nat} {kn:KE} {kx:Nat→KE} {e:Env}
  (hD:Disk G p A O) (hl:nn A.len) (hw1:w.1<18446744073709551616) (hw2:w.2.1<1000000) (hb:G.get b = .cells (encW (pre ++ w :: ws))) (hbn:b<G.n) (hM:G.get M = .map (encM (encO seen))) (hMn:M<G.n) (hbM:b≠M) (hpM:p≠M)
  (hn:n=(pre ++ w :: ws).length) (hnb:n<1000000) (hi:i=pre.length)
  (h0:pget ⟨.i0, .i0, .i0⟩ e = .ptr p 0) (h5:pget ⟨.i0, .i0, .i5⟩ e = .map M) (h11:pget ⟨.i0, .i1, .i1⟩ e = .slice b 0 n c s) (h12:pget ⟨.i0, .i1, .i2⟩ e = .int 3 n) (h13:pget ⟨.i0, .i1, .i3⟩ e = .int 3 i) {x:R}
  (hT:goodW A.len w∧w.1 ∉ seen → ∀ e',pget ⟨.i0, .i0, .i0⟩ e' = .ptr p 0→pget ⟨.i0, .i0, .i5⟩ e' = .map M→pget ⟨.i0, .i1, .i1⟩ e' = .slice b 0 n c s→pget ⟨.i0, .i1, .i2⟩ e' = .int 3 n→pget ⟨.i0, .i1, .i3⟩ e' = .int 3 (i+1) →
   kn e' (((G.new (.cells [.int 3 0, .str 0 0])).put G.n (.cells [.int 3 w.1, .str w.2.1 w.2.2])).put M (.map (encM (encO (seen ++ [w.1])))))=x)
  (hF:¬ (goodW A.len w∧w.1 ∉ seen) → ∀ e',pget ⟨.i0, .i0, .i4⟩ e' = .bool false→kx 0 e' ((G.new (.cells [.int 3 0, .str 0 0])).put G.n (.cells [.int 3 w.1, .str w.2.1 w.2.2]))=x) :
  evC c36l0 fuel (evP cp t fuel (d+1)) e G kn kx=x:=by
 have hw:=hD.wf
 have hlt:i<n:=by rw [hi,hn];simp only [List.length_append,List.length_cons];omega
 have e1:nn i:=by unfold nn;omega
 have e2:nn n:=by unfold nn;omega
 have e3:i<9223372036854775808:=by omega
 have e4:i * 2≤(encW (pre ++ w :: ws)).length:=by rw [encW_length,← hn];omega
 have hd:(encW (pre ++ w :: ws)).drop (i * 2) = .int 3 w.1 :: .str w.2.1 w.2.2 :: encW ws:=by rw [hi,encW_drop];rfl
 have e5:2≤(encW ws).length+1+1:=by omega
 have e6:¬ b=G.n:=by omega
 have e7:¬ M=G.n:=by omega
 have e8:G.n<G.n+1:=by omega
 have e9:(i+1) % 18446744073709551616=i+1:=by omega
 have e10:M<G.n+1:=by omega
 have n145:nn 145:=by unfold nn;omega
 have n0:nn 0:=by unfold nn;omega
 have n1:nn 1:=by unfold nn;omega
 have e11:w.2.1<9223372036854775808:=by omega
 generalize hG2:(G.new (.cells [.int 3 0, .str 0 0])).put G.n (.cells [.int 3 w.1, .str w.2.1 w.2.2])=G2 at hT hF
 have f2:Fresh G G2:=by rw [← hG2];exact Fresh.put (Fresh.new hw) (Nat.le_refl _) (by simp only [Heap.n_new];omega)
 have g2n:G2.get G.n = .cells [.int 3 w.1, .str w.2.1 w.2.2]:=by rw [← hG2];simp only [Heap.get_put,Heap.get_new,Heap.wf_put,Heap.wf_new,Heap.n_put,Heap.n_new,hw,e8,if_true]
 have g2M:G2.get M = .map (encM (encO seen)):=by rw [f2.same M hMn];exact hM
 have g2w:=f2.wf
 have g2Mn:M<G2.n:=Nat.lt_of_lt_of_le hMn f2.n
 have hD2:Disk G2.mark p A O:=by
  obtain ⟨D,q,r⟩:=hD.fresh f2
  exact ⟨D,⟨q.wf,q.hp,q.hg,q.hm,q.hmn,q.hmp,q.undo,q.hl,q.hr,q.hf,q.he⟩,r⟩
 have hL:∀ {k:K},callP (evP cp t fuel (d+1)) (.func 58 []) [.ptr p 0] G2.mark k=k (.int 3 A.len) G2.mark:=fun {k}=>len_all (T.disk4 hc) hD2
 have hlk:=lkp_encO seen w.1
 by_cases hg:goodW A.len w
 ·obtain ⟨q1,q2,q3⟩:=hg
  have e12:nn w.1:=by unfold nn at *;omega
  have e13:¬ w.1<145:=by omega
  have e14:¬ A.len≤w.1:=by omega
  have e15:(w.2.1=32)=True:=eq_true q3
  by_cases hs:w.1 ∈ seen
  ·rw [if_pos hs] at hlk
   simp only [go_sem,↓op_app,reduceCtorEq,Nat.reduceAdd,Nat.reduceSub,Nat.reduceMul,Nat.reduceEqDiff,Nat.reduceLT,Nat.reduceDiv,Nat.reduceMod,Nat.reduceLeDiff,↓reduceIte,c36l0,h0,h5,h11,h12,h13,hlt,e1,e2,e3,e4,hd,e5,e6,e7,e8,e9,hb,hw,hG2,g2n,g2M,g2w,hL,hlk,e11,e12,e13,e14,n145,n0,n1,hl,e15,ge_nn]
   exact hF (fun h=>h.2 hs) _ (by simp only [go_sem,reduceCtorEq,↓reduceIte])
  ·rw [if_neg hs] at hlk
   have hu:=upd_encO seen w.1 hs
   simp only [go_sem,↓op_app,reduceCtorEq,Nat.reduceAdd,Nat.reduceSub,Nat.reduceMul,Nat.reduceEqDiff,Nat.reduceLT,Nat.reduceDiv,Nat.reduceMod,Nat.reduceLeDiff,↓reduceIte,c36l0,h0,h5,h11,h12,h13,hlt,e1,e2,e3,e4,hd,e5,e6,e7,e8,e9,hb,hw,hG2,g2n,g2M,g2w,hL,hlk,e11,e12,e13,e14,n145,n0,n1,hl,e15,ge_nn,hu,g2Mn]
   refine hT ⟨⟨q1,q2,q3⟩,hs⟩ _ ?_ ?_ ?_ ?_ ?_ <;> simp only [go_sem,reduceCtorEq,↓reduceIte,h0,h5,h11,h12,h13]
 ·have hF':=hF (fun h=>hg h.1)
  unfold goodW at hg
  by_cases q1:(evCF (.lt 9223372036854775808 18446744073709551616) w.1 145=true)
  ·simp only [go_sem,↓op_app,reduceCtorEq,Nat.reduceAdd,Nat.reduceSub,Nat.reduceMul,Nat.reduceEqDiff,Nat.reduceLT,Nat.reduceDiv,Nat.reduceMod,Nat.reduceLeDiff,↓reduceIte,c36l0,h0,h5,h11,h12,h13,hlt,e1,e2,e3,e4,hd,e5,e6,e7,e8,e9,hb,hw,hG2,g2n,g2M,g2w,hL,q1]
   exact hF' _ (by simp only [go_sem,reduceCtorEq,↓reduceIte])
  ·have q1':=q1
   rw [cf_lt] at q1
   have e12:nn w.1:=by unfold nn;omega
   have e13:¬ w.1<145:=by unfold nn at e12;omega
   by_cases q2:A.len≤w.1
   ·simp only [go_sem,↓op_app,reduceCtorEq,Nat.reduceAdd,Nat.reduceSub,Nat.reduceMul,Nat.reduceEqDiff,Nat.reduceLT,Nat.reduceDiv,Nat.reduceMod,Nat.reduceLeDiff,↓reduceIte,c36l0,h0,h5,h11,h12,h13,hlt,e1,e2,e3,e4,hd,e5,e6,e7,e8,e9,hb,hw,hG2,g2n,g2M,g2w,hL,e12,e13,n145,hl,q2,ge_nn]
    exact hF' _ (by simp only [go_sem,reduceCtorEq,↓reduceIte])
   ·have q3:¬ w.2.1=32:=fun h=>hg ⟨by omega,by omega,h⟩
    simp only [go_sem,↓op_app,reduceCtorEq,Nat.reduceAdd,Nat.reduceSub,Nat.reduceMul,Nat.reduceEqDiff,Nat.reduceLT,Nat.reduceDiv,Nat.reduceMod,Nat.reduceLeDiff,↓reduceIte,c36l0,h0,h5,h11,h12,h13,hlt,e1,e2,e3,e4,hd,e5,e6,e7,e8,e9,hb,hw,hG2,g2n,g2M,g2w,hL,e11,e12,e13,n145,hl,q2,q3,ge_nn]
    exact hF' _ (by simp only [go_sem,reduceCtorEq,↓reduceIte])
theorem may_loop (T:TCode t) (hc:HasClone t) {p b c s M n:Nat} {A:AD} {O:Nat→Prop} {all:List Wr}
  (hD:Disk H p A O) (hl:nn A.len) (hall:∀ w ∈ all,w.1<18446744073709551616∧w.2.1<1000000) (hb:H.get b = .cells (encW all)) (hbn:b<H.n) (hM0:H.n≤M) (hn:n=all.length) (hnb:n<1000000) :
  ∀ (ws pre:List Wr) (seen:List Nat) (G:Heap),all=pre ++ ws→Fresh H G→M<G.n→G.get M = .map (encM (encO seen)) →
  ∃ G',Fresh H G' ∧ ∀ (d:Nat) (kx:Nat→KE) (r:Nat) (e:Env),ws.length<r→pget ⟨.i0, .i0, .i0⟩ e = .ptr p 0→pget ⟨.i0, .i0, .i5⟩ e = .map M→pget ⟨.i0, .i1, .i1⟩ e = .slice b 0 n c s→pget ⟨.i0, .i1, .i2⟩ e = .int 3 n→pget ⟨.i0, .i1, .i3⟩ e = .int 3 pre.length →
   ∀ x:R,(mayP A.len seen ws=true → ∀ e',kx 1 e' G'=x)→(mayP A.len seen ws=false → ∀ e',pget ⟨.i0, .i0, .i4⟩ e' = .bool false→kx 0 e' G'=x) →
   evL c36l0 fuel (evP cp t fuel (d+1)) kx r e G=x:=by
 intro ws
 induction ws with
 | nil=>
  intro pre seen G hal f hMn hM
  refine ⟨G,f,fun d kx r e hr h0 h5 h11 h12 h13 x hT hF => ?_⟩
  obtain ⟨r,rfl⟩:∃ q,r=q+1:=⟨r-1,by simp only [List.length_nil] at hr;omega⟩
  have hi:pre.length=n:=by rw [hn,hal,List.append_nil]
  have e1:¬ n<n:=by omega
  have e2:nn n:=by unfold nn;omega
  rw [evL_succ]
  rw [hi] at h13
  simp only [go_sem,↓op_app,reduceCtorEq,Nat.reduceAdd,Nat.reduceSub,Nat.reduceMul,Nat.reduceEqDiff,Nat.reduceLT,Nat.reduceDiv,Nat.reduceMod,Nat.reduceLeDiff,↓reduceIte,c36l0,h0,h5,h11,h12,h13,e1,e2]
  exact hT rfl _
 | cons w ws ih=>
  intro pre seen G hal f hMn hM
  have hbM:b≠M:=by omega
  have hpM:p≠M:=by have:=hD.lt p hD.own;omega
  have hw:=f.wf
  have hGM:¬ M=G.n:=by omega
  have hn':n=(pre ++ w :: ws).length:=by rw [hn,hal]
  have hw12:=hall w (by rw [hal];simp)
  have hb':G.get b = .cells (encW (pre ++ w :: ws)):=by rw [f.same b hbn,hb,hal]
  have hbG:b<G.n:=Nat.lt_of_lt_of_le hbn f.n
  have f1:Fresh H ((G.new (.cells [.int 3 0, .str 0 0])).put G.n (.cells [.int 3 w.1, .str w.2.1 w.2.2])):=Fresh.put (f.trans (Fresh.new hw)) f.n (by simp only [Heap.n_new];omega)
  have m1:M < ((G.new (.cells [.int 3 0, .str 0 0])).put G.n (.cells [.int 3 w.1, .str w.2.1 w.2.2])).n:=by simp only [Heap.n_put,Heap.n_new];omega
  by_cases hg:goodW A.len w∧w.1 ∉ seen
  ·obtain ⟨G',f',hG'⟩:=ih (pre ++ [w]) (seen ++ [w.1]) (((G.new (.cells [.int 3 0, .str 0 0])).put G.n (.cells [.int 3 w.1, .str w.2.1 w.2.2])).put M (.map (encM (encO (seen ++ [w.1]))))) (by rw [hal];simp) (Fresh.put f1 hM0 m1) (by simp only [Heap.n_put,Heap.n_new];omega) (by rw [Heap.get_put f1.wf m1,if_pos rfl])
   refine ⟨G',f',fun d kx r e hr h0 h5 h11 h12 h13 x hT hF => ?_⟩
   obtain ⟨r,rfl⟩:∃ q,r=q+1:=⟨r-1,by omega⟩
   have hm:mayP A.len seen (w :: ws)=mayP A.len (seen ++ [w.1]) ws:=by simp only [mayP,if_pos hg]
   rw [hm] at hT hF
   rw [evL_succ]
   refine may_round T hc (hD.fresh f) hl hw12.1 hw12.2 hb' hbG hM hMn hbM hpM hn' hnb rfl h0 h5 h11 h12 h13 (fun _ e' g0 g5 g11 g12 g13 => ?_) (fun h=>absurd hg h)
   exact hG' d kx r e' (by simp only [List.length_cons] at hr;omega) g0 g5 g11 g12 (by rw [g13];simp) x hT hF
  ·refine ⟨_,f1,fun d kx r e hr h0 h5 h11 h12 h13 x hT hF => ?_⟩
   obtain ⟨r,rfl⟩:∃ q,r=q+1:=⟨r-1,by omega⟩
   rw [evL_succ]
   exact may_round T hc (hD.fresh f) hl hw12.1 hw12.2 hb' hbG hM hMn hbM hpM hn' hnb rfl h0 h5 h11 h12 h13 (fun h=>absurd h hg) (fun _ e' h4=>hF (by simp only [mayP,if_neg hg]) e' h4)
theorem may_call (T:TCode t) (hc:HasClone t) {p:Nat} {v:V} {A:AD} {O Q:Nat→Prop} {ws:List Wr}
  (hD:Disk H p A O) (hl:nn A.len) (hv:WsAt H v ws Q) (hall:∀ w ∈ ws,w.1<18446744073709551616∧w.2.1<1000000) (hnb:ws.length<1000000) (hfu:ws.length<fuel) :
  ∃ H',(∀ (d:Nat) (k:K),callP (evP cp t fuel (d+2)) (.func 72 []) [.ptr p 0,v] H k=k (.bool (mayP A.len [] ws)) H')∧Fresh H H':=by
 have hw:=hD.wf
 rcases hv with ⟨rfl,rfl⟩ | ⟨b,c,s,rfl,hb,hbn,_⟩
 ·refine ⟨H.new (.map []),fun d k => ?_,Fresh.new hw⟩
  obtain ⟨f,rfl⟩:∃ f,fuel=f+1:=⟨fuel-1,by simp only [List.length_nil] at hfu;omega⟩
  have n0:nn 0:=by unfold nn;omega
  have e1:¬ 0<0:=by omega
  rw [call_entry T.k36 rfl rfl]
  simp only [go_sem,↓op_app,reduceCtorEq,Nat.reduceAdd,Nat.reduceSub,Nat.reduceMul,Nat.reduceEqDiff,Nat.reduceLT,Nat.reduceDiv,Nat.reduceMod,Nat.reduceLeDiff,↓reduceIte,c36,hw,evL_succ,c36l0,n0,e1,mayP]
 ·obtain ⟨G',f',hG'⟩:=may_loop (cp:=cp) (fuel:=fuel) (c:=c) (s:=s) (M:=H.n) (all:=ws) T hc hD hl hall hb hbn (Nat.le_refl _) rfl hnb ws [] [] (H.new (.map [])) rfl (Fresh.new hw) (by rw [Heap.n_new];omega) (by rw [Heap.get_new hw,if_pos rfl];rfl)
  refine ⟨G',fun d k => ?_,f'⟩
  have e1:ws.length<9223372036854775808:=by omega
  rw [call_entry T.k36 rfl rfl]
  simp only [go_sem,↓op_app,reduceCtorEq,Nat.reduceAdd,Nat.reduceSub,Nat.reduceMul,Nat.reduceEqDiff,Nat.reduceLT,Nat.reduceDiv,Nat.reduceMod,Nat.reduceLeDiff,↓reduceIte,c36,hw,e1]
  refine hG' d _ fuel _ hfu ?_ ?_ ?_ ?_ ?_ _ (fun hT e' => ?_) (fun hF e' h4 => ?_)
  all_goals first | (simp only [go_sem,↓op_app,reduceCtorEq,Nat.reduceAdd,Nat.reduceSub,Nat.reduceMul,Nat.reduceEqDiff,Nat.reduceLT,Nat.reduceDiv,Nat.reduceMod,Nat.reduceLeDiff,↓reduceIte];done) | simp only [go_sem,↓op_app,reduceCtorEq,Nat.reduceAdd,Nat.reduceSub,Nat.reduceMul,Nat.reduceEqDiff,Nat.reduceLT,Nat.reduceDiv,Nat.reduceMod,Nat.reduceLeDiff,↓reduceIte,hT] | simp only [go_sem,↓op_app,reduceCtorEq,Nat.reduceAdd,Nat.reduceSub,Nat.reduceMul,Nat.reduceEqDiff,Nat.reduceLT,Nat.reduceDiv,Nat.reduceMod,Nat.reduceLeDiff,↓reduceIte,hF,h4]
end
end Go.Ev
end
section
namespace Go.Ev
section
variable {cp:RC→CodeE} {t:Nat→Option FnE} {fuel d:Nat} {H:Heap} {k:K} {args caps:List V}
theorem call_bound {f g:Nat} (hf:f % 2=1) (hg:g % 2=0) (hF:f / 2=g / 2):callP (evP cp t fuel (d+1)) (.func f caps) args H k=callP (evP cp t fuel (d+1)) (.func g []) (caps ++ args) H k:=by
 show Nat.rec (motive:=fun _=>R) (appL args caps fun args=>evT t fuel (evP cp t fuel d) (Nat.div f 2) args H k) (fun _ _=>appL caps args fun args=>evT t fuel (evP cp t fuel d) (Nat.div f 2) args H k) (Nat.mod f 2)=Nat.rec (motive:=fun _=>R) (appL (caps ++ args) [] fun args=>evT t fuel (evP cp t fuel d) (Nat.div g 2) args H k) (fun _ _=>appL [] (caps ++ args) fun args=>evT t fuel (evP cp t fuel d) (Nat.div g 2) args H k) (Nat.mod g 2)
 have h1:Nat.mod f 2=1:=hf
 have h2:Nat.mod g 2=0:=hg
 have h3:Nat.div f 2=Nat.div g 2:=hF
 rw [h1,h2,h3]
 show appL caps args _=appL (caps ++ args) [] _
 rw [appL_eq,appL_eq,List.append_nil]
end
def AD.wrs (A:AD):List Wr→AD × Nat
 | []=>(A,0)
 | w :: ws=>if (A.write w.1 w.2.2).2=0 then (A.write w.1 w.2.2).1.wrs ws else A.write w.1 w.2.2
def AD.puts (A:AD) (ws:List Wr):AD × Nat:=if (A.wrs ws).2=0 then (A.wrs ws).1.flush else A.wrs ws
def roomy (room:Nat):List (Nat × Tx)→List Wr→Prop
 | _,[]=>True
 | es,w :: ws=>((find es w.1).isSome=true∨es.length<room)∧roomy room (updS es w.1 w.2) ws
theorem updS_le (D:List (Nat × (Nat × Nat))) (a:Nat) (v:Nat × Nat):(updS D a v).length≤D.length+1:=by rw [updS_length];split <;> omega
def AllAt (H:Heap) (O:Nat→Prop) (f:V) (p:Nat) (ws:List Wr):Prop:=
 ∃ B0 B1 B2 v,f = .func 130 [.ptr B0 0, .ptr B1 0, .ptr B2 0]∧H.get B0 = .cells [v]∧H.get B1 = .cells [.func 127 [.ptr p 0]]∧H.get B2 = .cells [.func 129 [.ptr p 0]] ∧
  (B0<H.n ∧ ¬ O B0)∧(B1<H.n ∧ ¬ O B1)∧(B2<H.n ∧ ¬ O B2)∧WsAt H v ws O
theorem AllAt.keep {H H':Heap} {O O':Nat→Prop} {f:V} {p:Nat} {ws:List Wr} (h:AllAt H O f p ws) (s:Step H O H' O'):AllAt H' O' f p ws:=by
 obtain ⟨B0,B1,B2,v,h1,h2,h3,h4,⟨a0,b0⟩,⟨a1,b1⟩,⟨a2,b2⟩,h5⟩:=h
 exact ⟨B0,B1,B2,v,h1,by rw [(s.same _ a0 b0).1];exact h2,by rw [(s.same _ a1 b1).1];exact h3,by rw [(s.same _ a2 b2).1];exact h4,⟨Nat.lt_of_lt_of_le a0 s.n,(s.same _ a0 b0).2⟩,⟨Nat.lt_of_lt_of_le a1 s.n,(s.same _ a1 b1).2⟩,⟨Nat.lt_of_lt_of_le a2 s.n,(s.same _ a2 b2).2⟩,h5.keep s⟩
section
variable {cp:RC→CodeE} {t:Nat→Option FnE} {fuel:Nat} {H:Heap}
theorem all_call (T:TCode t) {p:Nat} {v:V} {O:Nat→Prop} {ws:List Wr} (hw:H.wf) (hO:∀ b,O b→b<H.n) (hv:WsAt H v ws O) :
  ∃ H' f,(∀ (d:Nat) (k:K),callP (evP cp t fuel (d+1)) (.func 82 []) [.ptr p 0,v] H k=k f H')∧Fresh H H'∧AllAt H' O f p ws:=by
 have hone:v = .nils ∨ ∃ b o l c s,v = .slice b o l c s:=by
  rcases hv with ⟨rfl,_⟩ | ⟨b,c,s,rfl,_⟩
  ·exact Or.inl rfl
  ·exact Or.inr ⟨_,_,_,_,_,rfl⟩
 have e1:H.n+1<H.n+1+1+1:=by omega
 have e2:H.n+1+1<H.n+1+1+1:=by omega
 have e3:¬ H.n=H.n+1:=by omega
 have e4:¬ H.n=H.n+1+1:=by omega
 have e5:¬ H.n+1=H.n+1+1:=by omega
 have e6:¬ H.n+1+1=H.n+1:=by omega
 have e7:¬ H.n+1=H.n:=by omega
 have f:Fresh H (((((H.new (.cells [v])).new (.cells [.nilf])).new (.cells [.nilf])).put (H.n+1) (.cells [.func 127 [.ptr p 0]])).put (H.n+1+1) (.cells [.func 129 [.ptr p 0]])):=
  Fresh.put (Fresh.put (Fresh.trans (Fresh.trans (Fresh.new hw) (Fresh.new (by simp only [Heap.wf_new,hw]))) (Fresh.new (by simp only [Heap.wf_new,hw]))) (by omega) (by simp only [Heap.n_new];omega)) (by omega) (by simp only [Heap.n_new,Heap.n_put];omega)
 refine ⟨_, .func 130 [.ptr H.n 0, .ptr (H.n+1) 0, .ptr (H.n+1+1) 0],fun d k => ?_,f,H.n,H.n+1,H.n+1+1,v,rfl, ?_, ?_, ?_,⟨?_,fun h => ?_⟩,⟨?_,fun h => ?_⟩,⟨?_,fun h => ?_⟩,hv.fresh f⟩
 ·rw [call_entry T.k41 rfl rfl]
  rcases hone with rfl | ⟨b,o,l,c,s,rfl⟩ <;> simp only [go_sem,↓op_app,reduceCtorEq,Nat.reduceAdd,Nat.reduceSub,Nat.reduceMul,Nat.reduceEqDiff,Nat.reduceLT,Nat.reduceDiv,Nat.reduceMod,Nat.reduceLeDiff,↓reduceIte,c41,hw,e1,e2,e3,e4,e5,e6,e7]
 ·simp only [Heap.get_put,Heap.get_new,Heap.wf_put,Heap.wf_new,Heap.n_put,Heap.n_new,hw,e1,e2,e3,e4,if_true,if_false]
 ·simp only [Heap.get_put,Heap.get_new,Heap.wf_put,Heap.wf_new,Heap.n_put,Heap.n_new,hw,e1,e2,e5,if_true,if_false]
 ·simp only [Heap.get_put,Heap.get_new,Heap.wf_put,Heap.wf_new,Heap.n_put,Heap.n_new,hw,e1,e2,if_true,if_false]
 ·simp only [Heap.n_put,Heap.n_new];omega
 ·have:=hO _ h;omega
 ·simp only [Heap.n_put,Heap.n_new];omega
 ·have:=hO _ h;omega
 ·simp only [Heap.n_put,Heap.n_new];omega
 ·have:=hO _ h;omega
set_option maxRecDepth 4000 in
theorem puts_loop (T:TCode t) (hc:HasClone t) {p b c s n B1 B2:Nat} {all:List Wr} (hn:n=all.length) (hnb:n<10000) :
  ∀ (ws pre:List Wr) (G:Heap) (A:AD) (O:Nat→Prop),all=pre ++ ws→Disk G p A O→A.off=false→A.us.length+ws.length<90000→A.es.length+ws.length<900000→(∀ w ∈ ws,w.1<A.len∧w.2.1=32)→roomy A.room A.es ws →
   G.get b = .cells (encW all)→b<G.n → ¬ O b→G.get B1 = .cells [.func 127 [.ptr p 0]]→B1<G.n → ¬ O B1 →
  ∃ G' O',Step G O G' O'∧Disk G' p (A.wrs ws).1 O' ∧ ∀ (d:Nat) (kx:Nat→KE) (r:Nat) (e:Env),ws.length<r→pget ⟨.i0, .i0, .i1⟩ e = .ptr B1 0→pget ⟨.i0, .i0, .i2⟩ e = .ptr B2 0→pget ⟨.i0, .i0, .i7⟩ e = .slice b 0 n c s→pget ⟨.i0, .i1, .i0⟩ e = .int 3 n→pget ⟨.i0, .i1, .i1⟩ e = .int 3 pre.length →
   ∀ x:R,((A.wrs ws).2=0 → ∀ e',pget ⟨.i0, .i0, .i2⟩ e' = .ptr B2 0→kx 1 e' G'=x)→((A.wrs ws).2≠0 → ∀ e',pget ⟨.i0, .i0, .i3⟩ e' = .int 3 (A.wrs ws).2→kx 0 e' G'=x) →
   evL c65l0 fuel (evP cp t fuel (d+3)) kx r e G=x:=by
 intro ws
 induction ws with
 | nil=>
  intro pre G A O hal hD ho hus hes hgood hroom hb hbn hbO hB1 hB1n hB1O
  refine ⟨G,O,Step.refl hD.wf,hD,fun d kx r e hr h1 h2 h7 h10 h11 x hT hF => ?_⟩
  obtain ⟨r,rfl⟩:∃ q,r=q+1:=⟨r-1,by simp only [List.length_nil] at hr;omega⟩
  have hi:pre.length=n:=by rw [hn,hal,List.append_nil]
  have e1:¬ n<n:=by omega
  have e2:nn n:=by unfold nn;omega
  rw [evL_succ]
  rw [hi] at h11
  simp only [go_sem,↓op_app,reduceCtorEq,Nat.reduceAdd,Nat.reduceSub,Nat.reduceMul,Nat.reduceEqDiff,Nat.reduceLT,Nat.reduceDiv,Nat.reduceMod,Nat.reduceLeDiff,↓reduceIte,c65l0,h1,h7,h10,h11,e1,e2]
  exact hT rfl _ (by simp only [go_sem,reduceCtorEq,↓reduceIte,h2])
 | cons w ws ih=>
  intro pre G A O hal hD ho hus hes hgood hroom hb hbn hbO hB1 hB1n hB1O
  have hw:=hD.wf
  obtain ⟨hw1,hw2⟩:=hgood w (List.mem_cons_self ..)
  simp only [List.length_cons] at hus hes
  have e8:G.n<G.n+1:=by omega
  obtain ⟨wa,wl,wx⟩:=w
  simp only at hw1 hw2
  subst hw2
  generalize hG1:(G.new (.cells [.int 3 0, .str 0 0])).put G.n (.cells [.int 3 wa, .str 32 wx])=G1
  have f1:Fresh G G1:=by rw [← hG1];exact Fresh.put (Fresh.new hw) (Nat.le_refl _) (by simp only [Heap.n_new];omega)
  have hD1:=hD.fresh f1
  have g1n:G1.get G.n = .cells [.int 3 wa, .str 32 wx]:=by rw [← hG1];simp only [Heap.get_put,Heap.get_new,Heap.wf_put,Heap.wf_new,Heap.n_put,Heap.n_new,hw,e8,if_true]
  have hB1':G1.get B1 = .cells [.func 127 [.ptr p 0]]:=(f1.same B1 hB1n).trans hB1
  obtain ⟨G2,O2,hcall,hD2,s2⟩:=write_call (cp:=cp) (fuel:=fuel) (T.disk4 hc) (x:=wx) hD1 ho (by omega) (by omega) hw1 hroom.1
  have hcall':∀ {d:Nat} {k:K},callP (evP cp t fuel (d+3)) (.func 127 [.ptr p 0]) [.int 3 wa, .str 32 wx] G1 k=k (.int 3 (A.write wa wx).2) G2:=fun {d k}=>by
   rw [call_bound (f:=127) (g:=126) rfl rfl rfl]
   exact hcall d k
  have s12:Step G O G2 O2:=f1.step.trans s2
  have hlt:pre.length<n:=by rw [hn,hal];simp only [List.length_append,List.length_cons];omega
  have e1:nn pre.length:=by unfold nn;omega
  have e2:nn n:=by unfold nn;omega
  have e3:pre.length<9223372036854775808:=by omega
  have e4:pre.length * 2≤(encW all).length:=by rw [encW_length,← hn];omega
  have hd:(encW all).drop (pre.length * 2) = .int 3 wa :: .str 32 wx :: encW ws:=by rw [hal,encW_drop];rfl
  have e5:2≤(encW ws).length+1+1:=by omega
  have e9:(pre.length+1) % 18446744073709551616=pre.length+1:=by omega
  by_cases he:(A.write wa wx).2=0
  ·have hA:A.wrs ((wa,32,wx) :: ws)=(A.write wa wx).1.wrs ws:=by simp only [AD.wrs,if_pos he]
   have hf1:¬ A.fuse=1:=fun h=>by simp only [AD.write,if_pos h] at he;omega
   have hw':(A.write wa wx).1 = { A with fuse:=A.fuse-1,us:=A.us ++ [(wa,(find A.es wa).getD (0,0),(find A.es wa).isSome)],es:=updS A.es wa (32,wx) }:=by simp only [AD.write,if_neg hf1]
   have hle:=updS_le A.es wa (32,wx)
   obtain ⟨G',O',s',hD',hG'⟩:=ih (pre ++ [(wa,32,wx)]) G2 _ O2 (by rw [hal];simp) hD2 (by rw [hw'];exact ho) (by rw [hw'];simp only [List.length_append,List.length_cons,List.length_nil];omega) (by rw [hw'];simp only;omega) (by rw [hw'];exact fun w hw=>hgood w (List.mem_cons_of_mem _ hw)) (by rw [hw'];exact hroom.2)
    (by rw [(s12.same b hbn hbO).1];exact hb) (Nat.lt_of_lt_of_le hbn s12.n) (s12.same b hbn hbO).2 (by rw [(s12.same _ hB1n hB1O).1];exact hB1) (Nat.lt_of_lt_of_le hB1n s12.n) (s12.same _ hB1n hB1O).2
   rw [hA]
   refine ⟨G',O',s12.trans s',hD',fun d kx r e hr h1 h2 h7 h10 h11 x hT hF => ?_⟩
   obtain ⟨r,rfl⟩:∃ q,r=q+1:=⟨r-1,by omega⟩
   rw [evL_succ]
   simp only [go_sem,↓op_app,reduceCtorEq,Nat.reduceAdd,Nat.reduceSub,Nat.reduceMul,Nat.reduceEqDiff,Nat.reduceLT,Nat.reduceDiv,Nat.reduceMod,Nat.reduceLeDiff,↓reduceIte,c65l0,h1,h7,h10,h11,hlt,e1,e2,e3,e4,hd,e5,e8,e9,hb,hw,hG1,g1n,hB1',hcall',he]
   refine hG' d kx r _ (by simp only [List.length_cons] at hr;omega) ?_ ?_ ?_ ?_ ?_ x hT hF <;> simp only [go_sem,reduceCtorEq,↓reduceIte,h1,h2,h7,h10,h11]
  ·have hA:A.wrs ((wa,32,wx) :: ws)=A.write wa wx:=by simp only [AD.wrs,if_neg he]
   rw [hA]
   refine ⟨G2,O2,s12,hD2,fun d kx r e hr h1 h2 h7 h10 h11 x hT hF => ?_⟩
   obtain ⟨r,rfl⟩:∃ q,r=q+1:=⟨r-1,by omega⟩
   rw [evL_succ]
   simp only [go_sem,↓op_app,reduceCtorEq,Nat.reduceAdd,Nat.reduceSub,Nat.reduceMul,Nat.reduceEqDiff,Nat.reduceLT,Nat.reduceDiv,Nat.reduceMod,Nat.reduceLeDiff,↓reduceIte,c65l0,h1,h7,h10,h11,hlt,e1,e2,e3,e4,hd,e5,e8,e9,hb,hw,hG1,g1n,hB1',hcall',he]
   exact hF he _ (by simp only [go_sem,reduceCtorEq,↓reduceIte])
theorem wrs_off {A:AD}:∀ {ws:List Wr},A.off=false→(A.wrs ws).2=0→(A.wrs ws).1.off=false:=by
 intro ws
 induction ws generalizing A with
 | nil=>intro h _;exact h
 | cons w ws ih=>
  intro h h0
  simp only [AD.wrs] at h0 ⊢
  split at h0
  ·rename_i h1
   rw [if_pos h1]
   refine ih ?_ h0
   by_cases hf:A.fuse=1
   ·simp [AD.write,if_pos hf] at h1
   ·simp only [AD.write,if_neg hf];exact h
  ·rename_i h1;exact absurd h0 h1
theorem puts_call (T:TCode t) (hc:HasClone t) {p:Nat} {A:AD} {O:Nat→Prop} {f:V} {ws:List Wr} (hD:Disk H p A O) (hf:AllAt H O f p ws) (ho:A.off=false) (hus:A.us.length+ws.length<90000) (hes:A.es.length+ws.length<900000) (hgood:∀ w ∈ ws,w.1<A.len∧w.2.1=32) (hroom:roomy A.room A.es ws) (hnb:ws.length<10000) (hfu:ws.length<fuel) :
  ∃ H' O',(∀ (d:Nat) (k:K),callP (evP cp t fuel (d+4)) f [] H k=k (.int 3 (A.puts ws).2) H')∧Step H O H' O'∧Disk H' p (A.puts ws).1 O':=by
 obtain ⟨B0,B1,B2,v,rfl,h0,h1,h2,⟨a0,b0⟩,⟨a1,b1⟩,⟨a2,b2⟩,hv⟩:=hf
 have key:∃ G' O',Step H O G' O'∧Disk G' p (A.wrs ws).1 O' ∧ ∀ (d:Nat) (x:R) (kx:Nat→KE) (e:Env),pget ⟨.i0, .i0, .i1⟩ e = .ptr B1 0→pget ⟨.i0, .i0, .i2⟩ e = .ptr B2 0→pget ⟨.i0, .i0, .i7⟩ e=v→pget ⟨.i0, .i1, .i0⟩ e = .int 3 ws.length→pget ⟨.i0, .i1, .i1⟩ e = .int 3 0 →
   ((A.wrs ws).2=0 → ∀ e',pget ⟨.i0, .i0, .i2⟩ e' = .ptr B2 0→kx 1 e' G'=x)→((A.wrs ws).2≠0 → ∀ e',pget ⟨.i0, .i0, .i3⟩ e' = .int 3 (A.wrs ws).2→kx 0 e' G'=x) →
   evL c65l0 fuel (evP cp t fuel (d+3)) kx fuel e H=x:=by
  rcases hv with ⟨rfl,rfl⟩ | ⟨b,c,s,rfl,hb,hbn,hbO⟩
  ·refine ⟨H,O,Step.refl hD.wf,hD,fun d x kx e g1 g2 g7 g10 g11 hT hF => ?_⟩
   obtain ⟨f,rfl⟩:∃ f,fuel=f+1:=⟨fuel-1,by simp only [List.length_nil] at hfu;omega⟩
   have n0:nn 0:=by unfold nn;omega
   have e1:¬ 0<0:=by omega
   rw [evL_succ]
   simp only [List.length_nil] at g10
   simp only [go_sem,↓op_app,reduceCtorEq,Nat.reduceAdd,Nat.reduceSub,Nat.reduceMul,Nat.reduceEqDiff,Nat.reduceLT,Nat.reduceDiv,Nat.reduceMod,Nat.reduceLeDiff,↓reduceIte,c65l0,g10,g11,n0,e1]
   exact hT rfl _ (by simp only [go_sem,↓op_app,reduceCtorEq,Nat.reduceAdd,Nat.reduceSub,Nat.reduceMul,Nat.reduceEqDiff,Nat.reduceLT,Nat.reduceDiv,Nat.reduceMod,Nat.reduceLeDiff,↓reduceIte,g2])
  ·obtain ⟨G',O',s',hD',hG'⟩:=puts_loop (cp:=cp) (fuel:=fuel) (c:=c) (s:=s) (B2:=B2) T hc rfl hnb ws [] H A O rfl hD ho hus hes hgood hroom hb hbn hbO h1 a1 b1
   exact ⟨G',O',s',hD',fun d x kx e g1 g2 g7 g10 g11 hT hF=>hG' d kx fuel e hfu g1 g2 g7 g10 g11 x hT hF⟩
 obtain ⟨G',O',s',hD',hG'⟩:=key
 have hlen:∀ {id:Nat} {Q:R} {f:Nat→Nat→R},True:=fun {_ _ _}=>trivial
 have e1:ws.length<9223372036854775808:=by omega
 have hB2':G'.get B2 = .cells [.func 129 [.ptr p 0]]:=(s'.same B2 a2 b2).1.trans h2
 by_cases he:(A.wrs ws).2=0
 ·obtain ⟨H2,O2,hcall,hD2,s2⟩:=flush_all (cp:=cp) (fuel:=fuel) (T.disk4 hc) hD' (wrs_off ho he)
  have hcall':∀ {d:Nat} {k:K},callP (evP cp t fuel (d+3)) (.func 129 [.ptr p 0]) [] G' k=k (.int 3 (A.wrs ws).1.flush.2) H2:=fun {d k}=>by
   rw [call_bound (f:=129) (g:=128) rfl rfl rfl]
   exact hcall d k
  refine ⟨H2,O2,fun d k => ?_,s'.trans s2,by simp only [AD.puts,if_pos he];exact hD2⟩
  rw [call_entry T.k65 rfl rfl]
  simp only [AD.puts,if_pos he]
  have e2:([]:List Wr).length<9223372036854775808:=by simp
  have hl2:([]:List Wr).length=0:=rfl
  rcases hv with ⟨rfl,rfl⟩ | ⟨b,c,s,rfl,_⟩
  ·simp only [go_sem,↓op_app,reduceCtorEq,Nat.reduceAdd,Nat.reduceSub,Nat.reduceMul,Nat.reduceEqDiff,Nat.reduceLT,Nat.reduceDiv,Nat.reduceMod,Nat.reduceLeDiff,↓reduceIte,c65,h0]
   refine hG' d _ _ _ ?_ ?_ ?_ ?_ ?_ (fun _ e' g2 => ?_) (fun h=>absurd he h)
   all_goals first | (simp only [go_sem,↓op_app,reduceCtorEq,Nat.reduceAdd,Nat.reduceSub,Nat.reduceMul,Nat.reduceEqDiff,Nat.reduceLT,Nat.reduceDiv,Nat.reduceMod,Nat.reduceLeDiff,↓reduceIte,List.length_nil];done) | simp only [go_sem,↓op_app,reduceCtorEq,Nat.reduceAdd,Nat.reduceSub,Nat.reduceMul,Nat.reduceEqDiff,Nat.reduceLT,Nat.reduceDiv,Nat.reduceMod,Nat.reduceLeDiff,↓reduceIte,g2,hB2',hcall']
  ·simp only [go_sem,↓op_app,reduceCtorEq,Nat.reduceAdd,Nat.reduceSub,Nat.reduceMul,Nat.reduceEqDiff,Nat.reduceLT,Nat.reduceDiv,Nat.reduceMod,Nat.reduceLeDiff,↓reduceIte,c65,h0,e1]
   refine hG' d _ _ _ ?_ ?_ ?_ ?_ ?_ (fun _ e' g2 => ?_) (fun h=>absurd he h)
   all_goals first | (simp only [go_sem,↓op_app,reduceCtorEq,Nat.reduceAdd,Nat.reduceSub,Nat.reduceMul,Nat.reduceEqDiff,Nat.reduceLT,Nat.reduceDiv,Nat.reduceMod,Nat.reduceLeDiff,↓reduceIte];done) | simp only [go_sem,↓op_app,reduceCtorEq,Nat.reduceAdd,Nat.reduceSub,Nat.reduceMul,Nat.reduceEqDiff,Nat.reduceLT,Nat.reduceDiv,Nat.reduceMod,Nat.reduceLeDiff,↓reduceIte,g2,hB2',hcall']
 ·refine ⟨G',O',fun d k => ?_,s',by simp only [AD.puts,if_neg he];exact hD'⟩
  rw [call_entry T.k65 rfl rfl]
  simp only [AD.puts,if_neg he]
  have e2:([]:List Wr).length<9223372036854775808:=by simp
  have hl2:([]:List Wr).length=0:=rfl
  rcases hv with ⟨rfl,rfl⟩ | ⟨b,c,s,rfl,_⟩
  ·exact absurd rfl he
  ·simp only [go_sem,↓op_app,reduceCtorEq,Nat.reduceAdd,Nat.reduceSub,Nat.reduceMul,Nat.reduceEqDiff,Nat.reduceLT,Nat.reduceDiv,Nat.reduceMod,Nat.reduceLeDiff,↓reduceIte,c65,h0,e1]
   refine hG' d _ _ _ ?_ ?_ ?_ ?_ ?_ (fun h=>absurd h he) (fun _ e' g3 => ?_)
   all_goals first | (simp only [go_sem,↓op_app,reduceCtorEq,Nat.reduceAdd,Nat.reduceSub,Nat.reduceMul,Nat.reduceEqDiff,Nat.reduceLT,Nat.reduceDiv,Nat.reduceMod,Nat.reduceLeDiff,↓reduceIte];done) | simp only [go_sem,↓op_app,reduceCtorEq,Nat.reduceAdd,Nat.reduceSub,Nat.reduceMul,Nat.reduceEqDiff,Nat.reduceLT,Nat.reduceDiv,Nat.reduceMod,Nat.reduceLeDiff,↓reduceIte,g3]
end
end Go.Ev
end
section
namespace Go.Ev
def AD.runs (A:AD):List (List Wr)→AD × Nat
 | []=>(A,0)
 | ws :: l=>if (A.puts ws).2=0 then (A.puts ws).1.runs l else A.puts ws
def laid (es:List (Nat × Tx)) (ws:List Wr):List (Nat × Tx):=ws.foldl (fun es w=>updS es w.1 w.2) es
theorem laid_append (es:List (Nat × Tx)) (ws us:List Wr):laid es (ws ++ us)=laid (laid es ws) us:=by simp only [laid,List.foldl_append]
theorem roomy_append {room:Nat}:∀ {ws us:List Wr} {es:List (Nat × Tx)},roomy room es (ws ++ us)↔roomy room es ws∧roomy room (laid es ws) us
 | [],us,es=>by simp only [List.nil_append,roomy,true_and];rfl
 | w :: ws,us,es=>by
  simp only [List.cons_append,roomy,and_assoc]
  rw [roomy_append (ws:=ws) (us:=us) (es:=updS es w.1 w.2)]
  rfl
theorem laid_length (ws:List Wr) (es:List (Nat × Tx)):(laid es ws).length≤es.length+ws.length:=by
 induction ws generalizing es with
 | nil=>exact Nat.le_refl _
 | cons w ws ih=>
  have h1:=ih (updS es w.1 w.2)
  have h2:=updS_le es w.1 w.2
  simp only [List.length_cons]
  have h3:laid es (w :: ws)=laid (updS es w.1 w.2) ws:=rfl
  rw [h3]
  omega
structure Went (A B:AD) (es:List (Nat × Tx)):Prop where
 len:B.len=A.len
 room:B.room=A.room
 off:B.off=A.off
 es:B.es=es
theorem wrs_went:∀ {ws:List Wr} {A:AD},(∀ w ∈ ws,w.2.1=32)→(A.wrs ws).2=0→Went A (A.wrs ws).1 (laid A.es ws)∧(A.wrs ws).1.us.length=A.us.length+ws.length
 | [],A,_,_=>⟨⟨rfl,rfl,rfl,rfl⟩,rfl⟩
 | w :: ws,A,hl,h0=>by
  simp only [AD.wrs] at h0 ⊢
  split at h0
  ·rename_i h1
   rw [if_pos h1]
   have hf:¬ A.fuse=1:=fun h=>by simp only [AD.write,if_pos h] at h1;omega
   have hw:(A.write w.1 w.2.2).1 = { A with fuse:=A.fuse-1,us:=A.us ++ [(w.1,(find A.es w.1).getD (0,0),(find A.es w.1).isSome)],es:=updS A.es w.1 (32,w.2.2) }:=by simp only [AD.write,if_neg hf]
   obtain ⟨⟨g1,g2,g3,g4⟩,g5⟩:=wrs_went (A:=(A.write w.1 w.2.2).1) (fun v hv=>hl v (List.mem_cons_of_mem _ hv)) h0
   have h32:(32,w.2.2)=w.2:=by rw [← hl w (List.mem_cons_self ..)]
   rw [hw,h32] at g1 g2 g3 g4 g5 ⊢
   refine ⟨⟨g1,g2,g3,g4⟩, ?_⟩
   rw [g5]
   simp only [List.length_append,List.length_cons,List.length_nil]
   omega
  ·rename_i h1;exact absurd h0 h1
theorem puts_went {ws:List Wr} {A:AD} (hl:∀ w ∈ ws,w.2.1=32) (h0:(A.puts ws).2=0):Went A (A.puts ws).1 (laid A.es ws)∧(A.puts ws).1.us=[]:=by
 unfold AD.puts at h0 ⊢
 by_cases h1:(A.wrs ws).2=0
 ·rw [if_pos h1] at h0 ⊢
  obtain ⟨⟨g1,g2,g3,g4⟩,g5⟩:=wrs_went hl h1
  by_cases hf:(A.wrs ws).1.fuse=1
  ·simp only [AD.flush,if_pos hf] at h0;omega
  ·simp only [AD.flush,if_neg hf]
   exact ⟨⟨g1,g2,g3,g4⟩,trivial⟩
 ·rw [if_neg h1] at h0;exact absurd h0 h1
def encF (fs:List (V × List Wr)):List V:=fs.map (·.1)
structure RunOK (A:AD) (l:List (List Wr)):Prop where
 off:A.off=false
 us:∀ ws ∈ l,A.us.length+ws.length<90000
 es:A.es.length+l.flatten.length<900000
 good:∀ ws ∈ l,∀ w ∈ ws,w.1<A.len∧w.2.1=32
 room:roomy A.room A.es l.flatten
theorem RunOK.next {A:AD} {ws:List Wr} {l:List (List Wr)} (h:RunOK A (ws :: l)) (h0:(A.puts ws).2=0):RunOK (A.puts ws).1 l:=by
 obtain ⟨⟨g1,g2,g3,g4⟩,g5⟩:=puts_went (fun w hw=>(h.good ws (List.mem_cons_self ..) w hw).2) h0
 have hl:=laid_length ws A.es
 refine ⟨g3.trans h.off,fun us hus => ?_, ?_,fun us hus w hw => ?_, ?_⟩
 ·rw [g5];have:=h.us us (List.mem_cons_of_mem _ hus);simp only [List.length_nil];omega
 ·rw [g4];have:=h.es;simp only [List.flatten_cons,List.length_append] at this;omega
 ·rw [g1];exact h.good us (List.mem_cons_of_mem _ hus) w hw
 ·rw [g2,g4]
  have:=h.room
  simp only [List.flatten_cons] at this
  exact (roomy_append.1 this).2
section
variable {cp:RC→CodeE} {t:Nat→Option FnE} {fuel:Nat} {H:Heap}
set_option maxRecDepth 4000 in
theorem run_loop (T:TCode t) (hc:HasClone t) {p b c s n:Nat} {all:List (V × List Wr)} (hn:n=all.length) (hnb:n<10000) :
  ∀ (fs pre:List (V × List Wr)) (G:Heap) (A:AD) (O:Nat→Prop),all=pre ++ fs→Disk G p A O→RunOK A (fs.map (·.2))→(∀ f ∈ fs,AllAt G O f.1 p f.2∧f.2.length<10000∧f.2.length<fuel) →
   G.get b = .cells (encF all)→b<G.n → ¬ O b →
  ∃ G' O',Step G O G' O'∧Disk G' p (A.runs (fs.map (·.2))).1 O' ∧ ∀ (d:Nat) (kx:Nat→KE) (r:Nat) (e:Env),fs.length<r→pget ⟨.i0, .i0, .i6⟩ e = .slice b 0 n c s→pget ⟨.i0, .i0, .i7⟩ e = .int 3 n→pget ⟨.i0, .i1, .i0⟩ e = .int 3 pre.length →
   ∀ x:R,((A.runs (fs.map (·.2))).2=0 → ∀ e',kx 1 e' G'=x)→((A.runs (fs.map (·.2))).2≠0 → ∀ e',pget ⟨.i0, .i0, .i2⟩ e' = .int 3 (A.runs (fs.map (·.2))).2→kx 0 e' G'=x) →
   evL c40l0 fuel (evP cp t fuel (d+4)) kx r e G=x:=by
 intro fs
 induction fs with
 | nil=>
  intro pre G A O hal hD hR hfs hb hbn hbO
  refine ⟨G,O,Step.refl hD.wf,hD,fun d kx r e hr h6 h7 h10 x hT hF => ?_⟩
  obtain ⟨r,rfl⟩:∃ q,r=q+1:=⟨r-1,by simp only [List.length_nil] at hr;omega⟩
  have hi:pre.length=n:=by rw [hn,hal,List.append_nil]
  have e1:¬ n<n:=by omega
  have e2:nn n:=by unfold nn;omega
  rw [evL_succ]
  rw [hi] at h10
  simp only [go_sem,↓op_app,reduceCtorEq,Nat.reduceAdd,Nat.reduceSub,Nat.reduceMul,Nat.reduceEqDiff,Nat.reduceLT,Nat.reduceDiv,Nat.reduceMod,Nat.reduceLeDiff,↓reduceIte,c40l0,h6,h7,h10,e1,e2]
  exact hT rfl _
 | cons f fs ih=>
  intro pre G A O hal hD hR hfs hb hbn hbO
  obtain ⟨f,ws⟩:=f
  obtain ⟨hf1,hf2,hf3⟩:=hfs (f,ws) (List.mem_cons_self ..)
  simp only at hf1 hf2 hf3
  simp only [List.map_cons] at hR ⊢
  have hrm:=hR.room
  simp only [List.flatten_cons] at hrm
  have hes:=hR.es
  simp only [List.flatten_cons,List.length_append] at hes
  obtain ⟨G2,O2,hcall,s2,hD2⟩:=puts_call (cp:=cp) (fuel:=fuel) T hc hD hf1 hR.off (hR.us ws (List.mem_cons_self ..)) (by omega) (hR.good ws (List.mem_cons_self ..)) (roomy_append.1 hrm).1 hf2 hf3
  have hlt:pre.length<n:=by rw [hn,hal];simp only [List.length_append,List.length_cons];omega
  have e1:nn pre.length:=by unfold nn;omega
  have e2:nn n:=by unfold nn;omega
  have e3:pre.length<9223372036854775808:=by omega
  have hget:(encF all)[pre.length]? = some f:=by rw [hal];simp [encF]
  have hnth:∀ {id:Nat} {k:V→R},nth id (encF all) pre.length k=k f:=nth_get hget
  have e9:(pre.length+1) % 18446744073709551616=pre.length+1:=by omega
  by_cases he:(A.puts ws).2=0
  ·have hA:A.runs (ws :: fs.map (·.2))=(A.puts ws).1.runs (fs.map (·.2)):=by simp only [AD.runs,if_pos he]
   obtain ⟨G',O',s',hD',hG'⟩:=ih (pre ++ [(f,ws)]) G2 _ O2 (by rw [hal];simp) hD2 (hR.next he) (fun g hg=>⟨(hfs g (List.mem_cons_of_mem _ hg)).1.keep s2,(hfs g (List.mem_cons_of_mem _ hg)).2⟩) ((s2.same b hbn hbO).1.trans hb) (Nat.lt_of_lt_of_le hbn s2.n) (s2.same b hbn hbO).2
   rw [hA]
   refine ⟨G',O',s2.trans s',hD',fun d kx r e hr h6 h7 h10 x hT hF => ?_⟩
   obtain ⟨r,rfl⟩:∃ q,r=q+1:=⟨r-1,by omega⟩
   rw [evL_succ]
   simp only [go_sem,↓op_app,reduceCtorEq,Nat.reduceAdd,Nat.reduceSub,Nat.reduceMul,Nat.reduceEqDiff,Nat.reduceLT,Nat.reduceDiv,Nat.reduceMod,Nat.reduceLeDiff,↓reduceIte,c40l0,h6,h7,h10,hlt,e1,e2,e3,hb,hnth,hcall,he,e9]
   refine hG' d kx r _ (by simp only [List.length_cons] at hr;omega) ?_ ?_ ?_ x hT hF <;> simp only [go_sem,reduceCtorEq,↓reduceIte,h6,h7,h10]
  ·have hA:A.runs (ws :: fs.map (·.2))=A.puts ws:=by simp only [AD.runs,if_neg he]
   rw [hA]
   refine ⟨G2,O2,s2,hD2,fun d kx r e hr h6 h7 h10 x hT hF => ?_⟩
   obtain ⟨r,rfl⟩:∃ q,r=q+1:=⟨r-1,by omega⟩
   rw [evL_succ]
   simp only [go_sem,↓op_app,reduceCtorEq,Nat.reduceAdd,Nat.reduceSub,Nat.reduceMul,Nat.reduceEqDiff,Nat.reduceLT,Nat.reduceDiv,Nat.reduceMod,Nat.reduceLeDiff,↓reduceIte,c40l0,h6,h7,h10,hlt,e1,e2,e3,hb,hnth,hcall,he]
   exact hF he _ (by simp only [go_sem,reduceCtorEq,↓reduceIte])
theorem run_call (T:TCode t) (hc:HasClone t) {p b c s:Nat} {A:AD} {O:Nat→Prop} {fs:List (V × List Wr)} (hD:Disk H p A O) (hR:RunOK A (fs.map (·.2))) (hfs:∀ f ∈ fs,AllAt H O f.1 p f.2∧f.2.length<10000∧f.2.length<fuel) (hb:H.get b = .cells (encF fs)) (hbn:b<H.n) (hbO:¬ O b) (hnb:fs.length<10000) (hfu:fs.length<fuel) :
  ∃ H' O',(∀ (d:Nat) (k:K),callP (evP cp t fuel (d+5)) (.func 80 []) [.slice b 0 fs.length c s] H k=k (.int 3 (A.runs (fs.map (·.2))).2) H')∧Step H O H' O'∧Disk H' p (A.runs (fs.map (·.2))).1 O':=by
 obtain ⟨G',O',s',hD',hG'⟩:=run_loop (cp:=cp) (fuel:=fuel) (c:=c) (s:=s) T hc rfl hnb fs [] H A O rfl hD hR hfs hb hbn hbO
 refine ⟨G',O',fun d k => ?_,s',hD'⟩
 have e1:fs.length<9223372036854775808:=by omega
 rw [call_entry T.k40 rfl rfl]
 simp only [go_sem,↓op_app,reduceCtorEq,Nat.reduceAdd,Nat.reduceSub,Nat.reduceMul,Nat.reduceEqDiff,Nat.reduceLT,Nat.reduceDiv,Nat.reduceMod,Nat.reduceLeDiff,↓reduceIte,c40,e1]
 refine hG' d _ fuel _ hfu ?_ ?_ ?_ _ (fun h e' => ?_) (fun h e' h2 => ?_)
 all_goals first | (simp only [go_sem,↓op_app,reduceCtorEq,Nat.reduceAdd,Nat.reduceSub,Nat.reduceMul,Nat.reduceEqDiff,Nat.reduceLT,Nat.reduceDiv,Nat.reduceMod,Nat.reduceLeDiff,↓reduceIte];done) | simp only [go_sem,↓op_app,reduceCtorEq,Nat.reduceAdd,Nat.reduceSub,Nat.reduceMul,Nat.reduceEqDiff,Nat.reduceLT,Nat.reduceDiv,Nat.reduceMod,Nat.reduceLeDiff,↓reduceIte,h2] | simp only [go_sem,↓op_app,reduceCtorEq,Nat.reduceAdd,Nat.reduceSub,Nat.reduceMul,Nat.reduceEqDiff,Nat.reduceLT,Nat.reduceDiv,Nat.reduceMod,Nat.reduceLeDiff,↓reduceIte,h]
end
end Go.Ev
end
section
namespace Go.Ev
theorem enc_append:∀ (a b:List UInt8),enc (a ++ b)=enc a+enc b * 256 ^ a.length
 | [],b=>by simp [enc]
 | x :: a,b=>by
  simp only [List.cons_append,enc,enc_append a b,List.length_cons,Nat.pow_succ]
  have h:256 * (enc b * 256 ^ a.length)=enc b * (256 ^ a.length * 256):=by rw [Nat.mul_left_comm,Nat.mul_comm 256]
  omega
theorem tv_append (a b:List UInt8):V.str (a.length+b.length) (enc a+enc b * 256 ^ a.length)=tv (a ++ b):=by
 simp only [tv,List.length_append,enc_append]
def be:Nat→Nat→List UInt8→List UInt8
 | 0,_,s=>s
 | m+1,n,s=>if n=0 then s else be m (n / 256) (UInt8.ofNat (n % 256) :: s)
def pnum (n:Nat):List UInt8:=UInt8.ofNat (be 8 n []).length :: be 8 n []
theorem be_length:∀ (m n:Nat) (s:List UInt8),(be m n s).length≤m+s.length
 | 0,n,s=>by simp [be]
 | m+1,n,s=>by
  simp only [be]
  split
  ·omega
  ·have:=be_length m (n / 256) (UInt8.ofNat (n % 256) :: s)
   simp only [List.length_cons] at this
   omega
theorem pnum_length (n:Nat):(pnum n).length≤9:=by
 have:=be_length 8 n []
 simp only [pnum,List.length_cons,List.length_nil] at *
 omega
theorem toNat_ofNat {n:Nat} (h:n<256):(UInt8.ofNat n).toNat=n:=by simp;omega
theorem gt_un {a b:Nat} (ha:a<18446744073709551616) (hb:b<18446744073709551616):(evCF (.gt 0 18446744073709551616) a b=true)=(b<a):=by
 rw [cf_gt,Nat.add_zero,Nat.add_zero,Nat.mod_eq_of_lt ha,Nat.mod_eq_of_lt hb]
theorem lt_un {a b:Nat} (ha:a<18446744073709551616) (hb:b<18446744073709551616):(evCF (.lt 0 18446744073709551616) a b=true)=(a<b):=by
 rw [cf_lt,Nat.add_zero,Nat.add_zero,Nat.mod_eq_of_lt ha,Nat.mod_eq_of_lt hb]
theorem putB_top {s:List UInt8} {v i:Nat}:putB (enc s * 256 ^ (i+1)) i 1 v=(v+256 * enc s) * 256 ^ i:=by
 unfold putB
 have h1:enc s * 256 ^ (i+1) % 256 ^ i=0:=by rw [Nat.pow_succ,Nat.mul_comm (256 ^ i),← Nat.mul_assoc];exact Nat.mul_mod_left _ _
 have h2:(enc s * 256 ^ (i+1)) >>> (8 * (i+1))=enc s:=by
  rw [Nat.shiftRight_eq_div_pow,Nat.pow_mul,show (2 ^ 8:Nat)=256 by rfl,Nat.mul_div_cancel _ (Nat.pow_pos (by omega))]
 rw [h1,h2,Nat.pow_one,Nat.zero_add,Nat.mul_comm (enc s)]
section
variable {cp:RC→CodeE} {t:Nat→Option FnE} {fuel:Nat} {H:Heap}
theorem putNum_loop (T:TCode t) {B:Nat} :
  ∀ (m n:Nat) (s:List UInt8) (G:Heap),m+s.length=8→n<256 ^ m→Fresh H G→H.n≤B→B<G.n→G.get B = .bytes 8 (enc s * 256 ^ m) →
  ∃ G',Fresh H G'∧B<G'.n∧G'.get B = .bytes 8 (enc (be m n s) * 256 ^ (8-(be m n s).length)) ∧ ∀ (d:Nat) (kx:Nat→KE) (r:Nat) (e:Env) (v0:V),m<r→pget ⟨.i0, .i0, .i0⟩ e=v0→pget ⟨.i0, .i0, .i1⟩ e = .int 7 n→pget ⟨.i0, .i0, .i5⟩ e = .ptr B 0→pget ⟨.i0, .i0, .i6⟩ e = .int 3 m →
   ∀ x:R,(∀ e',pget ⟨.i0, .i0, .i0⟩ e'=v0→pget ⟨.i0, .i0, .i5⟩ e' = .ptr B 0→pget ⟨.i0, .i0, .i6⟩ e' = .int 3 (8-(be m n s).length)→kx 1 e' G'=x) →
   evL c58l0 fuel (evP cp t fuel d) kx r e G=x:=by
 intro m
 induction m with
 | zero=>
  intro n s G hm hn f hB hBn hb
  have hn0:n=0:=by simp at hn;exact hn
  subst hn0
  have hs:8-s.length=0:=by omega
  simp only [be]
  refine ⟨G,f,hBn,by rw [hs];exact hb,fun d kx r e v0 hr h0 h1 h5 h6 x hT => ?_⟩
  obtain ⟨r,rfl⟩:∃ q,r=q+1:=⟨r-1,by omega⟩
  have e1:(evCF (.gt 0 18446744073709551616) 0 0=true)=False:=by rw [gt_un (by omega) (by omega)];simp
  rw [evL_succ]
  simp only [go_sem,↓op_app,reduceCtorEq,Nat.reduceAdd,Nat.reduceSub,Nat.reduceMul,Nat.reduceEqDiff,Nat.reduceLT,Nat.reduceDiv,Nat.reduceMod,Nat.reduceLeDiff,↓reduceIte,c58l0,h0,h1,h5,h6,e1]
  exact hT _ (by simp only [go_sem,reduceCtorEq,↓reduceIte,h0]) (by simp only [go_sem,reduceCtorEq,↓reduceIte,h5]) (by simp only [go_sem,↓op_app,reduceCtorEq,Nat.reduceAdd,Nat.reduceSub,Nat.reduceMul,Nat.reduceEqDiff,Nat.reduceLT,Nat.reduceDiv,Nat.reduceMod,Nat.reduceLeDiff,↓reduceIte,h6,hs])
 | succ m ih=>
  intro n s G hm hn f hB hBn hb
  have hn64:n<18446744073709551616:=by
   have:256 ^ (m+1)≤256 ^ 8:=Nat.pow_le_pow_right (by omega) (by omega)
   have h8:(256:Nat) ^ 8=18446744073709551616:=by decide
   omega
  have e1:(evCF (.gt 0 18446744073709551616) n 0=true)=(0<n):=gt_un hn64 (by omega)
  by_cases h0:n=0
  ·subst h0
   simp only [be,if_true]
   have hs:8-s.length=m+1:=by omega
   refine ⟨G,f,hBn,by rw [hs];exact hb,fun d kx r e v0 hr h0 h1 h5 h6 x hT => ?_⟩
   obtain ⟨r,rfl⟩:∃ q,r=q+1:=⟨r-1,by omega⟩
   have e2:¬ 0<0:=by omega
   rw [evL_succ]
   simp only [go_sem,↓op_app,reduceCtorEq,Nat.reduceAdd,Nat.reduceSub,Nat.reduceMul,Nat.reduceEqDiff,Nat.reduceLT,Nat.reduceDiv,Nat.reduceMod,Nat.reduceLeDiff,↓reduceIte,c58l0,h0,h1,h5,h6,e1,e2]
   exact hT _ (by simp only [go_sem,reduceCtorEq,↓reduceIte,h0]) (by simp only [go_sem,reduceCtorEq,↓reduceIte,h5]) (by simp only [go_sem,↓op_app,reduceCtorEq,Nat.reduceAdd,Nat.reduceSub,Nat.reduceMul,Nat.reduceEqDiff,Nat.reduceLT,Nat.reduceDiv,Nat.reduceMod,Nat.reduceLeDiff,↓reduceIte,h6,hs])
  ·have hd:n / 256<256 ^ m:=by rw [Nat.div_lt_iff_lt_mul (by omega),← Nat.pow_succ];exact hn
   have hw:=f.wf
   have hx:putB (enc s * 256 ^ (m+1)) m 1 (n % 256)=enc (UInt8.ofNat (n % 256) :: s) * 256 ^ m:=by
    rw [putB_top]
    simp only [enc,toNat_ofNat (show n % 256<256 by omega)]
   obtain ⟨G',f',hB',hb',hG'⟩:=ih (n / 256) (UInt8.ofNat (n % 256) :: s) (G.put B (.bytes 8 (enc (UInt8.ofNat (n % 256) :: s) * 256 ^ m))) (by simp only [List.length_cons];omega) hd (Fresh.put f hB hBn) hB (by rw [Heap.n_put];exact hBn) (by rw [Heap.get_put hw hBn,if_pos rfl])
   simp only [be,if_neg h0]
   refine ⟨G',f',hB',hb',fun d kx r e v0 hr h0' h1 h5 h6 x hT => ?_⟩
   obtain ⟨r,rfl⟩:∃ q,r=q+1:=⟨r-1,by omega⟩
   have e2:0<n:=by omega
   have e3:(m+1+18446744073709551615) % 18446744073709551616=m:=by omega
   have e4:m<8:=by omega
   have e5:m<9223372036854775808:=by omega
   have e6:m+1≤8:=by omega
   have e7:n >>> 8=n / 256:=by rw [Nat.shiftRight_eq_div_pow]
   rw [evL_succ]
   simp only [go_sem,↓op_app,reduceCtorEq,Nat.reduceAdd,Nat.reduceSub,Nat.reduceMul,Nat.reduceEqDiff,Nat.reduceLT,Nat.reduceDiv,Nat.reduceMod,Nat.reduceLeDiff,↓reduceIte,c58l0,h0',h1,h5,h6,e1,e2,e3,e4,e5,e6,e7,hb,hx,hw,hBn,hn64]
   refine hG' d kx r _ v0 (by omega) ?_ ?_ ?_ ?_ x hT <;> simp only [go_sem,reduceCtorEq,↓reduceIte,h0',h1,h5,h6]
theorem put_call (T:TCode t) {d:Nat} {k:K} {l x b o n c s len y:Nat} (hb:H.get b = .bytes len y) (hl:o+n≤len) (hs:l+n<9223372036854775808) :
  callP (evP cp t fuel (d+1)) (.func 148 []) [.str l x, .slice b o n c s] H k=k (.str (l+n) (x+(y >>> (8 * o)) % 256 ^ n * 256 ^ l)) H:=by
 rw [call_entry T.k74 rfl rfl]
 simp only [go_sem,↓op_app,reduceCtorEq,Nat.reduceAdd,Nat.reduceSub,Nat.reduceMul,Nat.reduceEqDiff,Nat.reduceLT,Nat.reduceDiv,Nat.reduceMod,Nat.reduceLeDiff,↓reduceIte,c74,hb,hl,hs]
theorem putNum_call (T:TCode t) {a:List UInt8} {n:Nat} (hw:H.wf) (ha:a.length<4000000000000000000) (hn:n<18446744073709551616) (hfu:8<fuel) :
  ∃ H',(∀ (d:Nat) (k:K),callP (evP cp t fuel (d+2)) (.func 116 []) [tv a, .int 7 n] H k=k (tv (a ++ pnum n)) H')∧Fresh H H':=by
 have h8:(256:Nat) ^ 8=18446744073709551616:=by decide
 obtain ⟨G',f',hB',hb',hG'⟩:=putNum_loop (cp:=cp) (fuel:=fuel) (B:=H.n) T 8 n [] (H.new (.bytes 8 0)) rfl (by rw [h8];exact hn) (Fresh.new hw) (Nat.le_refl _) (by rw [Heap.n_new];omega) (by rw [Heap.get_new hw,if_pos rfl];simp [enc])
 have hle:=be_length 8 n []
 simp only [List.length_nil,Nat.add_zero] at hle
 have hpn:pnum n=UInt8.ofNat (be 8 n []).length :: be 8 n []:=rfl
 generalize be 8 n []=s at hb' hG' hle hpn
 have hw':=f'.wf
 have f2:Fresh H (G'.new (.bytes 1 s.length)):=f'.trans (Fresh.new hw')
 refine ⟨_,fun d k => ?_,f2⟩
 have e1:(8+(18446744073709551616-(8-s.length))) % 18446744073709551616=s.length:=by omega
 have e2:s.length % 256=s.length:=by omega
 have p1:∀ {k:K},callP (evP cp t fuel (d+1)) (.func 148 []) [.str a.length (enc a), .slice G'.n 0 1 2 0] (G'.new (.bytes 1 s.length)) k=k (.str (a.length+1) (enc a+s.length * 256 ^ a.length)) (G'.new (.bytes 1 s.length)):=fun {k}=>by
  rw [put_call T (y:=s.length) (len:=1) (by rw [Heap.get_new hw',if_pos rfl]) (by omega) (by omega)]
  rw [Nat.mul_zero,Nat.shiftRight_zero,Nat.pow_one,e2]
 have hB2:(G'.new (.bytes 1 s.length)).get H.n = .bytes 8 (enc s * 256 ^ (8-s.length)):=by rw [Heap.get_new hw',if_neg (by omega)];exact hb'
 have e3:8-(8-s.length)=s.length:=by omega
 have e4:(enc s * 256 ^ (8-s.length)) >>> (8 * (8-s.length)) % 256 ^ s.length=enc s:=by
  rw [Nat.shiftRight_eq_div_pow,Nat.pow_mul,show (2 ^ 8:Nat)=256 by rfl,Nat.mul_div_cancel _ (Nat.pow_pos (by omega)),Nat.mod_eq_of_lt (enc_lt s)]
 have p2:∀ {k:K} {c:Nat},callP (evP cp t fuel (d+1)) (.func 148 []) [.str (a.length+1) (enc a+s.length * 256 ^ a.length), .slice H.n (8-s.length) s.length c 0] (G'.new (.bytes 1 s.length)) k=k (tv (a ++ pnum n)) (G'.new (.bytes 1 s.length)):=fun {k c}=>by
  rw [put_call T (y:=enc s * 256 ^ (8-s.length)) (len:=8) hB2 (by omega) (by omega),e4]
  congr 1
  rw [hpn]
  simp only [tv,List.length_append,List.length_cons,V.str.injEq,enc_append,enc,toNat_ofNat (show s.length<256 by omega)]
  refine ⟨by omega, ?_⟩
  rw [Nat.pow_succ,Nat.add_mul,Nat.add_assoc,Nat.mul_comm 256 (enc s),Nat.mul_assoc,Nat.mul_comm 256]
 have p3:∀ {k:K},callP (evP cp t fuel (d+1)) (.func 148 []) [.str (a.length+1) (enc a+s.length * 256 ^ a.length), .slice H.n 0 0 1 0] (G'.new (.bytes 1 s.length)) k=k (.str (a.length+1+0) (enc a+s.length * 256 ^ a.length+enc s * 256 ^ (8-s.length) >>> (8 * 0) % 256 ^ 0 * 256 ^ (a.length+1))) (G'.new (.bytes 1 s.length)):=fun {k}=>put_call T (y:=enc s * 256 ^ (8-s.length)) (len:=8) hB2 (by omega) (by omega)
 have e5:8-s.length≤8:=by omega
 have e6:8-s.length<9223372036854775808:=by omega
 rw [call_entry T.k58 rfl rfl]
 rw [show tv a = .str a.length (enc a) from rfl]
 simp only [go_sem,↓op_app,reduceCtorEq,Nat.reduceAdd,Nat.reduceSub,Nat.reduceMul,Nat.reduceEqDiff,Nat.reduceLT,Nat.reduceDiv,Nat.reduceMod,Nat.reduceLeDiff,↓reduceIte,c58,hw]
 refine hG' (d+1) _ fuel _ (.str a.length (enc a)) hfu ?_ ?_ ?_ ?_ _ (fun e' g0 g5 g6 => ?_)
 ·simp only [go_sem,reduceCtorEq,↓reduceIte]
 ·simp only [go_sem,reduceCtorEq,↓reduceIte]
 ·simp only [go_sem,reduceCtorEq,↓reduceIte]
 ·simp only [go_sem,reduceCtorEq,↓reduceIte]
 ·by_cases hz:s.length=0
  ·have hs0:s=[]:=List.eq_nil_of_length_eq_zero hz
   subst hs0
   have e8:(1:Nat) % 256=1:=rfl
   have hr:tv (a ++ pnum n) = .str (a.length+1) (enc a):=by
    rw [hpn]
    simp only [tv,List.length_append,List.length_cons,List.length_nil,V.str.injEq,enc_append,enc]
    refine ⟨trivial, ?_⟩
    simp
   have hz0:∀ q:Nat,0 % 256 ^ q=0:=fun q=>Nat.zero_mod _
   simp only [List.length_nil,Nat.sub_zero,Nat.zero_mul,Nat.add_zero,enc,Nat.zero_shiftRight,hz0] at p1 p3 g6
   simp only [go_sem,↓op_app,reduceCtorEq,Nat.reduceAdd,Nat.reduceSub,Nat.reduceMul,Nat.reduceEqDiff,Nat.reduceLT,Nat.reduceDiv,Nat.reduceMod,Nat.reduceLeDiff,↓reduceIte,g0,g5,g6,hw',List.length_nil,p1,p3,hr]
  ·have e7:¬ 8=8-s.length:=by omega
   simp only [go_sem,↓op_app,reduceCtorEq,Nat.reduceAdd,Nat.reduceSub,Nat.reduceMul,Nat.reduceEqDiff,Nat.reduceLT,Nat.reduceDiv,Nat.reduceMod,Nat.reduceLeDiff,↓reduceIte,g0,g5,g6,hw',e1,e2,e3,e5,e6,e7,p1,p2]
end
end Go.Ev
end

