/- LA: a part of the evaluator,of its logic,or of the laws' walk in it. -/
import Derived.Test.YtnndgkcpacpleaaGreatDoorLg
import Derived.Test.YtnndgkcpacpleaaGreatDoorCode
open List renaming getElem?_eq_getElem → YA,length_append → YC,length_cons → YH,mem_cons_of_mem → YI,mem_cons_self → YJ,nil_append → YK,cons_append → YL,length_nil → YO,map_cons → YP,append_nil → YR,flatten_cons → WU,flatMap_cons → Wb,flatMap_append → Wj,find?_cons → Qz
open Nat renaming le_refl → YB,lt_of_lt_of_le → YD,mod → Yq,le_trans → Yr,mod_eq_of_lt → WE,shiftRight_eq_div_pow → WG,add_zero → WL,div → Wf,mul_comm → Wo,pow_mul → QS,pow_succ → QX,mul_assoc → YM0,mul_div_cancel → YM1
open Or renaming inr → YE,inl → YG
open Option renaming getD_some → Yl,getD_none → Wq,map_some → QK,isSome_none → Qi,map_none → Qj,isSome_some → YA2
set_option linter.unusedVariables false
set_option linter.unusedSimpArgs false
set_option linter.unusedSectionVars false
set_option maxHeartbeats 8000000
open Nat renaming reduceAdd→ZA,reduceSub→ZB,reduceMul→ZC,reduceEqDiff→ZD,reduceLT→ZE,reduceDiv→ZF,reduceMod→ZG,reduceLeDiff→ZH
section
namespace Go.Ev
structure DR where
 m:Nat
 u:V
 len:Nat
 room:Nat
 aZ:Nat
 off:Bool
def DR.db (D:DR):eK:=.cells [.map D.m,D.u,.int 3 D.len,.int 3 D.room,.int 3 D.aZ,.bool D.off]
section
variable {cp:RC->ah} {t:Nat->Option cP} {fuel d:Nat} {H:Heap} {k:K}
structure TDisk (t:Nat->Option cP):Prop where
 off:t 18=some (.code [s000] [] c18)
 state:t 66=some (.code [s000] [.tmp s002] c66)
 ZT:t 211=some (.code [s000] [.tmp s002] Pv)
 there:t 177=some (.code [s000,s001] [.tmp s004] U0)
 write:t 165=some (.code [s000,s001,s002] [.tmp s006] Ee)
variable (T:TDisk t)
include T
theorem SN {p} {D:DR} (hw:H.wf) (hp:p<H.n) (hg:H.get p=D.db):
 aj (aN cp t fuel (d+1)) (.func 36 []) [.ptr p 0] H k=k (.cH []) (H.put p {D with aZ:=0,off:=true }.db):=by
 rw [ax T.off rfl rfl]
 simp only [go_sem,c18,DR.db,hg,hw,hp]
theorem eI {p} {D:DR} (hw:H.wf) (hp:p<H.n) (hg:H.get p=D.db):
 aj (aN cp t fuel (d+1)) (.func 132 []) [.ptr p 0] H k=k (.int 3 (if D.off=true then 6 else 0)) H:=by
 rw [ax T.state rfl rfl]
 cases ho:D.off<;>simp only [go_sem,c66,DR.db,hg,ho]
theorem tm {p} {D:DR} (hw:H.wf) (hp:p<H.n) (hg:H.get p=D.db) (ho:D.off=false) (hf:D.aZ≠1) (hfb:nn D.aZ):
 aj (aN cp t fuel (d+2)) (.func 422 []) [.ptr p 0] H k=k (.int 3 0) (H.put p {D with aZ:=D.aZ-1 }.db):=by
 have h5:nn 0:=by unfold nn;omega
 have hs:∀ {k},aj (aN cp t fuel (d+1)) (.func 132 []) [.ptr p 0] (H.put p {D with aZ:=D.aZ-1 }.db) k=k (.int 3 0) (H.put p {D with aZ:=D.aZ-1 }.db):=λ{k}=>by
  rw [eI T (by rw [Heap.bF];omega) (by rw [Heap.aR];omega) (by rw [Heap.aE hw hp,if_pos rfl])]
  grind
 simp only [DR.db,ho]at hs ⊢
 rw [ax T.ZT rfl rfl]
 by_cases h0:D.aZ=0
 .have h6:sJ true 9223372036854775808 18446744073709551616 18446744073709551615 0=0:=by decide
  have h7:¬ (18446744073709551615=0):=by omega
  simp only [h0]at hs
  simp only [go_sem,Pv,DR.db,hg,hw,hp,ho,h0,h6,h7,hs]
 .have h1:(D.aZ+18446744073709551615)%18446744073709551616=D.aZ-1:=by unfold nn at hfb;omega
  have h2:¬ D.aZ-1=0:=by omega
  have h3:nn (D.aZ-1):=by unfold nn at *;omega
  have h4:max (D.aZ-1) 0=D.aZ-1:=by omega
  simp only [go_sem,Pv,DR.db,hg,hw,hp,ho,h1,h2,h3,h4,h5,hs]
theorem iQ {p a} {D:DR} (hw:H.wf) (hp:p<H.n) (hg:H.get p=D.db) (hl:nn D.len) (ha:a<18446744073709551616):
 aj (aN cp t fuel (d+1)) (.func 354 []) [.ptr p 0,.int 3 a] H k=k (.bool (decide (a<D.len))) H:=by
 have h5:nn 0:=by unfold nn;simp
 rw [ax T.there rfl rfl]
 by_cases h:nn a
 .have h8:=Nat.zero_le a
  by_cases h9:a<D.len<;>simp only [go_sem,U0,DR.db,hg,h,h5,h8,h9,hl,decide_true,decide_false]
 .have h8:(dA (.ge 9223372036854775808 18446744073709551616) a 0=true)=False:=by
   rw [LY]
   unfold nn at h
   grind
  have h9:¬ a<D.len:=by unfold nn at h hl;omega
  simp only [go_sem,U0,h8,h9,decide_false]
def sv (p:Nat × Nat):V:=.str p.1 p.2
def iK (D:List (Nat × (Nat × Nat))):List (Nat × V):=D.map λp=>(p.1,sv p.2)
def find (D:List (Nat × (Nat × Nat))) (a:Nat):Option (Nat × Nat):=(D.find? λp=>p.1 == a).map (·.2)
omit T in
theorem mF:∀ (D) (a),Vx (iK D) a=(find D a).map sv
 | [],a=>rfl
 | p :: D,a=>by
  have ih:=mF D a
  unfold Vx find iK at *
  grind
set_option maxRecDepth 4000 in
theorem Lu {p a x:Nat} {D:DR} {es:List (Nat × (Nat × Nat))} (hw:H.wf) (hp:p<H.n) (hg:H.get p=D.db) (hm:H.get D.m = .map (eX (iK es))) (sD:D.m<H.n) (Ch:D.m≠p) (ho:D.off=false) (hf:D.aZ≠1) (hfb:nn D.aZ) (hl:nn D.len) (hr:nn D.room) (he:es.length<9223372036854775808)
 (ha:a<D.len) (hroom:(find es a).isSome=true\/es.length<D.room) (hu:D.u = .az):
 aj (aN cp t fuel (d+3)) (.func 330 []) [.ptr p 0,.int 3 a,.str 32 x] H k=k (.int 3 0)
  (((((H.put p {D with aZ:=D.aZ-1 }.db).new (.cells [.int 3 a,sv ((find es a).getD (0,0)),.bool (find es a).isSome])).new (.cells [.int 3 a,sv ((find es a).getD (0,0)),.bool (find es a).isSome])).put p {D with aZ:=D.aZ-1,u:=.slice (H.n+1) 0 1 0 3 }.db).put D.m (.map (eX (Dw (iK es) a (.str 32 x))))):=by
 have hs:∀ {k},aj (aN cp t fuel (d+2)) (.func 132 []) [.ptr p 0] H k=k (.int 3 0) H:=λ{k}=>by
  rw [eI T hw hp hg,ho]
  rfl
 have ht:∀ {k},aj (aN cp t fuel (d+2)) (.func 354 []) [.ptr p 0,.int 3 a] H k=k (.bool true) H:=λ{k}=>by
  rw [iQ T hw hp hg hl (by unfold nn at hl;omega),decide_eq_true ha]
 have hb:∀ {k},aj (aN cp t fuel (d+2)) (.func 422 []) [.ptr p 0] H k=k (.int 3 0) (H.put p {D with aZ:=D.aZ-1 }.db):=λ{k}=>tm T hw hp hg ho hf hfb
 have n1:¬ p=H.n:=by omega
 have n2:¬ p=H.n+1:=by omega
 have n3:¬ D.m=H.n:=by omega
 have n4:¬ D.m=H.n+1:=by omega
 have n5:p<H.n+1+1:=by omega
 have n6:D.m<H.n+1+1:=by omega
 have n7:=by omega
 rw [ax T.write rfl rfl]
 have hlk:=mF es a
 have hel:(eX (iK es)).length=es.length:=by simp [eX,iK]
 have hnn:nn es.length:=by unfold nn;omega
 cases hfi:find es a with
 | some q=>
  rw [hfi]at hlk
  simp only [QK,sv]at hlk
  simp only [go_sem,↓cW,ZE,Ee,hs,ht,hb,DR.db,hg,hm,hw,hp,Ch,ho,hu,hlk,n1,n2,n3,n4,n5,n6,Yl,YA2,sv]
 | none=>
  rw [hfi]at hlk
  simp only [Qj]at hlk
  have hrm:¬ D.room<=es.length:=by
   grind
  simp only [go_sem,↓cW,ZE,Ee,hs,ht,hb,DR.db,hg,hm,hw,hp,Ch,ho,hu,hlk,hel,hnn,hr,he,hrm,n1,n2,n3,n4,n5,n6,Wq,Qi,sv]
set_option maxRecDepth 4000 in
theorem IH {p a x:Nat} {D:DR} {es:List (Nat × (Nat × Nat))} (hw:H.wf) (hp:p<H.n) (hg:H.get p=D.db) (hm:H.get D.m = .map (eX (iK es))) (sD:D.m<H.n) (Ch:D.m≠p) (ho:D.off=false) (hf:D.aZ≠1) (hfb:nn D.aZ) (hl:nn D.len) (hr:nn D.room) (he:es.length<9223372036854775808)
 (ha:a<D.len) (hroom:(find es a).isSome=true\/es.length<D.room) {ub n:Nat} {us:List V} (hu:D.u = .slice ub 0 n 0 3) (hus:us.length=n*3) (hn0:0<n) (hnb:n<1073741000) (hub:H.get ub = .cells us) (hubn:ub<H.n) (hup:ub≠p) (hum:ub≠D.m):
 aj (aN cp t fuel (d+3)) (.func 330 []) [.ptr p 0,.int 3 a,.str 32 x] H k=k (.int 3 0)
  ((((((H.put p {D with aZ:=D.aZ-1 }.db).new (.cells [.int 3 a,sv ((find es a).getD (0,0)),.bool (find es a).isSome])).put ub .dead).new (.cells (us ++ [.int 3 a,sv ((find es a).getD (0,0)),.bool (find es a).isSome]))).put p {D with aZ:=D.aZ-1,u:=.slice (H.n+1) 0 (n+1) 0 3 }.db).put D.m (.map (eX (Dw (iK es) a (.str 32 x))))):=by
 have hs:∀ {k},aj (aN cp t fuel (d+2)) (.func 132 []) [.ptr p 0] H k=k (.int 3 0) H:=λ{k}=>by
  rw [eI T hw hp hg,ho]
  rfl
 have ht:∀ {k},aj (aN cp t fuel (d+2)) (.func 354 []) [.ptr p 0,.int 3 a] H k=k (.bool true) H:=λ{k}=>by
  rw [iQ T hw hp hg hl (by unfold nn at hl;omega),decide_eq_true ha]
 have hb:∀ {k},aj (aN cp t fuel (d+2)) (.func 422 []) [.ptr p 0] H k=k (.int 3 0) (H.put p {D with aZ:=D.aZ-1 }.db):=λ{k}=>tm T hw hp hg ho hf hfb
 have n1:¬ p=H.n:=by omega
 have n2:¬ p=H.n+1:=by omega
 have n3:¬ D.m=H.n:=by omega
 have n4:¬ D.m=H.n+1:=by omega
 have n5:p<H.n+1+1:=by omega
 have n6:D.m<H.n+1+1:=by omega
 have n7:=by omega
 have n8:¬ ub=H.n:=by omega
 have n9:=by omega
 have n10:ub<H.n+1:=by omega
 have n11:n+1<=1073741824:=by omega
 have n12:¬ p=ub:=λe=>hup e.symm
 have n13:¬ D.m=ub:=λe=>hum e.symm
 rw [ax T.write rfl rfl]
 have hlk:=mF es a
 have hel:(eX (iK es)).length=es.length:=by simp [eX,iK]
 have hnn:nn es.length:=by unfold nn;omega
 cases hfi:find es a with
 | some q=>
  rw [hfi]at hlk
  simp only [QK,sv]at hlk
  simp only [go_sem,↓cW,ZE,Ee,hs,ht,hb,DR.db,hg,hm,hw,hp,Ch,ho,hu,hlk,n1,n2,n3,n4,n5,n6,n8,n10,n11,n12,n13,hus,hub,hup,Yl,YA2,sv]
 | none=>
  rw [hfi]at hlk
  simp only [Qj]at hlk
  have hrm:¬ D.room<=es.length:=by
   grind
  simp only [go_sem,↓cW,ZE,Ee,hs,ht,hb,DR.db,hg,hm,hw,hp,Ch,ho,hu,hlk,hel,hnn,hr,he,hrm,n1,n2,n3,n4,n5,n6,n8,n10,n11,n12,n13,hus,hub,hup,Wq,Qi,sv]
end
structure vY (H:Heap) (p:Nat) (D:DR) (es:List (Nat × (Nat × Nat))) (us:List V):Prop where
 wf:H.wf
 hp:p<H.n
 hg:H.get p=D.db
 hm:H.get D.m = .map (eX (iK es))
 sD:D.m<H.n
 Ch:D.m≠p
 T4:(D.u = .az/\us=[])\/∃ ub n,D.u = .slice ub 0 n 0 3/\us.length=n*3/\0<n/\H.get ub = .cells us/\ub<H.n/\ub≠p/\ub≠D.m
 hl:nn D.len
 hr:nn D.room
 hf:nn D.aZ
 he:es.length<9223372036854775808
theorem Heap.eY {H:Heap} {lo b:Nat} {x:eK} (h1:lo<=H.bz) (h2:lo<=b):lo<=(H.put b x).bz:=by
 by_cases h:H.wf/\b<H.n
 .rw [Heap.Dr h.1 h.2]
  split<;>assumption
 .have e:H.put b x=H:=if_neg h
  rw [e]
  exact h1
theorem Heap.rz {H:Heap} {lo:Nat} {x:eK} (h1:lo<=H.bz):lo<=(H.new x).bz:=h1
def DR.owns (D:DR) (p b:Nat):Prop:=b=p\/b=D.m\/∃ o n c s,D.u = .slice b o n c s
def eS:List (Nat × (Nat × Nat))->Nat->(Nat × Nat)->List (Nat × (Nat × Nat))
 | [],a,v=>[(a,v)]
 | p :: D,a,v=>if p.1=a then (p.1,v):: D else p :: eS D a v
theorem Iu:∀ (D) (a) (v),Dw (iK D) a (sv v)=iK (eS D a v)
 | [],a,v=>rfl
 | p :: D,a,v=>by
  have ih:=Iu D a v
  by_cases h:p.1=a
  .simp [iK,Dw,eS,h]
  .simp only [iK,YP,Dw,eS,h,if_false]
   simp only [iK]at ih
   rw [ih]
theorem lJ:∀ (D) (a) (v),(eS D a v).length=if (find D a).isSome=true then D.length else D.length+1
 | [],a,v=>rfl
 | p :: D,a,v=>by
  have ih:=lJ D a v
  by_cases h:p.1=a
  .have hb:=by omega
   simp [eS,find,h]
  .have hb:=by omega
   have hf:find (p :: D) a=find D a:=by simp [find,hb]
   rw [hf]
   simp only [eS,h,if_false,YH,ih]
   split<;>rfl
section
variable {cp:RC->ah} {t:Nat->Option cP} {fuel d:Nat} {H:Heap} {k:K}
theorem Uk (T:TDisk t) {p a x:Nat} {D:DR} {es:List (Nat × (Nat × Nat))} {us:List V} (h:vY H p D es us) (ho:D.off=false) (hf:D.aZ≠1) (hub:us.length<3000000) (heb:es.length<1000000)
 (ha:a<D.len) (hroom:(find es a).isSome=true\/es.length<D.room):
 ∃ H' D',(∀ (d:Nat) (k:K),aj (aN cp t fuel (d+3)) (.func 330 []) [.ptr p 0,.int 3 a,.str 32 x] H k=k (.int 3 0) H')/\
  vY H' p D' (eS es a (32,x)) (us ++ [.int 3 a,sv ((find es a).getD (0,0)),.bool (find es a).isSome])/\D'.m=D.m/\D'.len=D.len/\D'.room=D.room/\D'.aZ=D.aZ-1/\D'.off=false/\H.n<=H'.n/\
  (∀ b,b<H.n->¬ D.owns p b->H'.get b=H.get b/\¬ D'.owns p b)/\
  (∀ lo,lo<=H.bz->lo<=H.n->(∀ b,D.owns p b->lo<=b)->lo<=H'.bz/\∀ b,D'.owns p b->lo<=b):=by
 have hlen:=lJ es a (32,x)
 have hle:(eS es a (32,x)).length<=es.length+1:=by grind
 have hw:=h.wf
 have hp:=h.hp
 have sD:=h.sD
 have hfb:nn (D.aZ-1):=by have:=h.hf;unfold nn at *;omega
 have n1:=by omega
 have n2:¬ p=H.n+1:=by omega
 have n3:=by omega
 have n4:¬ D.m=H.n+1:=by omega
 have n5:p<H.n+1+1:=by omega
 have n6:D.m<H.n+1+1:=by omega
 have n7:¬ p=D.m:=λe=>h.Ch e.symm
 have hv:Dw (iK es) a (.str 32 x)=iK (eS es a (32,x)):=Iu es a (32,x)
 rcases h.T4 with ⟨hu,rfl⟩|⟨ub,n,hu,hus,hn0,hub',hubn,hup,hum⟩
 .refine ⟨_,{D with aZ:=D.aZ-1,u:=.slice (H.n+1) 0 1 0 3,off:=false },λd k=>Lu T hw hp h.hg h.hm sD h.Ch ho hf h.hf h.hl h.hr h.he ha hroom hu,?_,rfl,rfl,rfl,rfl,rfl,?_,λb hb hno=>?_,λlo hlo hln hlO=>⟨?_,?_⟩⟩
  .refine ⟨by simp only [Heap.bF,Heap.aX,hw],by simp only [Heap.aR,Heap.aM];omega,?_,?_,by simp only [Heap.aR,Heap.aM];exact n6,h.Ch,YE ⟨H.n+1,1,rfl,rfl,by omega,?_,by simp only [Heap.aR,Heap.aM];omega,λe=>n2 e.symm,λe=>n4 e.symm⟩,h.hl,h.hr,hfb,by omega⟩
   .simp only [Heap.aE,Heap.aD,Heap.bF,Heap.aX,Heap.aR,Heap.aM,hw,hp,n5,n6,n7,if_false,if_true,ho]
   .simp only [Heap.aE,Heap.aD,Heap.bF,Heap.aX,Heap.aR,Heap.aM,hw,hp,n5,n6,if_true,hv]
   .have e1:¬ H.n+1=D.m:=λe=>n4 e.symm
    have e2:¬ H.n+1=p:=λe=>n2 e.symm
    simp only [Heap.aE,Heap.aD,Heap.bF,Heap.aX,Heap.aR,Heap.aM,hw,hp,n5,n6,e1,e2,if_false,if_true,YK]
  .simp only [Heap.aR,Heap.aM];omega
  .have e1:¬ b=D.m:=λe=>hno (YE (YG e))
   have e2:¬ b=p:=λe=>hno (YG e)
   have e3:¬ b=H.n:=by omega
   have e4:¬ b=H.n+1:=by omega
   refine ⟨by simp only [Heap.aE,Heap.aD,Heap.bF,Heap.aX,Heap.aR,Heap.aM,hw,hp,n5,n6,e1,e2,e3,e4,if_false],?_⟩
   rintro (e|e|⟨o,m,c,s,e⟩)
   .exact e2 e
   .exact e1 e
   grind
  .exact Heap.eY (Heap.eY (Heap.rz (Heap.rz (Heap.eY hlo (hlO _ (YG rfl))))) (hlO _ (YG rfl))) (hlO _ (YE (YG rfl)))
  .rintro b (e|e|⟨o,m,c,s,e⟩)
   .exact hlO b (YG e)
   .exact hlO b (YE (YG e))
   grind
 .have n8:=by omega
  have n9:=by omega
  have n10:ub<H.n+1:=by omega
  have n12:¬ p=ub:=λe=>hup e.symm
  have n13:¬ D.m=ub:=λe=>hum e.symm
  refine ⟨_,{D with aZ:=D.aZ-1,u:=.slice (H.n+1) 0 (n+1) 0 3,off:=false },λd k=>IH T hw hp h.hg h.hm sD h.Ch ho hf h.hf h.hl h.hr h.he ha hroom hu hus hn0 (by omega) hub' hubn hup hum,?_,rfl,rfl,rfl,rfl,rfl,?_,λb hb hno=>?_,λlo hlo hln hlO=>⟨?_,?_⟩⟩
  .refine ⟨by simp only [Heap.bF,Heap.aX,hw],by simp only [Heap.aR,Heap.aM];omega,?_,?_,by simp only [Heap.aR,Heap.aM];exact n6,h.Ch,YE ⟨H.n+1,n+1,rfl,by simp;omega,by omega,?_,by simp only [Heap.aR,Heap.aM];omega,λe=>n2 e.symm,λe=>n4 e.symm⟩,h.hl,h.hr,hfb,by omega⟩
   .simp only [Heap.aE,Heap.aD,Heap.bF,Heap.aX,Heap.aR,Heap.aM,hw,hp,n5,n6,n7,n10,if_false,if_true,ho]
   .simp only [Heap.aE,Heap.aD,Heap.bF,Heap.aX,Heap.aR,Heap.aM,hw,hp,n5,n6,n10,if_true,hv]
   .have e1:¬ H.n+1=D.m:=λe=>n4 e.symm
    have e2:¬ H.n+1=p:=λe=>n2 e.symm
    simp only [Heap.aE,Heap.aD,Heap.bF,Heap.aX,Heap.aR,Heap.aM,hw,hp,n5,n6,n10,e1,e2,if_false,if_true]
  .simp only [Heap.aR,Heap.aM];omega
  .have e1:¬ b=D.m:=λe=>hno (YE (YG e))
   have e2:¬ b=p:=λe=>hno (YG e)
   have e3:¬ b=H.n:=by omega
   have e4:¬ b=H.n+1:=by omega
   have e5:¬ b=ub:=λe=>hno (YE (YE ⟨0,n,0,3,by rw [hu,e]⟩))
   refine ⟨by simp only [Heap.aE,Heap.aD,Heap.bF,Heap.aX,Heap.aR,Heap.aM,hw,hp,n5,n6,n10,e1,e2,e3,e4,e5,if_false],?_⟩
   rintro (e|e|⟨o,m,c,s,e⟩)
   .exact e2 e
   .exact e1 e
   grind
  .exact Heap.eY (Heap.eY (Heap.rz (Heap.eY (Heap.rz (Heap.eY hlo (hlO _ (YG rfl)))) (hlO _ (YE (YE ⟨0,n,0,3,hu⟩))))) (hlO _ (YG rfl))) (hlO _ (YE (YG rfl)))
  .rintro b (e|e|⟨o,m,c,s,e⟩)
   .exact hlO b (YG e)
   .exact hlO b (YE (YG e))
   grind
end
end Go.Ev
end
section
namespace Go.Ev
section
variable {cp:RC->ah} {t:Nat->Option cP} {fuel d:Nat} {H:Heap} {k:K}
structure TDisk2 (t:Nat->Option cP):Prop extends TDisk t where
 flush:t 166=some (.code [s000] [.tmp s002] UY)
 read:t 117=some (.code [s000,s001] [.tmp s004,.tmp s005] US)
 len:t 37=some (.code [s000] [.tmp s002] c37)
 on:t 139=some (.code [s000] [.tmp s002] ZX)
variable (T:TDisk2 t)
include T
theorem So {p} {D:DR} (hw:H.wf) (hp:p<H.n) (hg:H.get p=D.db):
 aj (aN cp t fuel (d+1)) (.func 74 []) [.ptr p 0] H k=k (.int 3 D.len) H:=by
 rw [ax T.len rfl rfl]
 simp only [go_sem,c37,DR.db,hg]
theorem VN {p} {D:DR} (hw:H.wf) (hp:p<H.n) (hg:H.get p=D.db):
 aj (aN cp t fuel (d+2)) (.func 278 []) [.ptr p 0] H k=k (.bool (!D.off)) H:=by
 have hs:∀ {k},aj (aN cp t fuel (d+1)) (.func 132 []) [.ptr p 0] H k=k (.int 3 (if D.off=true then 6 else 0)) H:=λ{k}=>eI T.toTDisk hw hp hg
 rw [ax T.on rfl rfl]
 cases ho:D.off<;>rw [ho]at hs<;>simp only [Bool.false_eq_true,if_false,if_true]at hs<;>simp only [go_sem,ZX,hs]
theorem JR {p} {D:DR} (hw:H.wf) (hp:p<H.n) (hg:H.get p=D.db) (ho:D.off=false) (hf:D.aZ≠1) (hfb:nn D.aZ):
 aj (aN cp t fuel (d+3)) (.func 332 []) [.ptr p 0] H k=k (.int 3 0) (H.put p {D with aZ:=D.aZ-1,u:=.az }.db):=by
 have hs:∀ {k},aj (aN cp t fuel (d+2)) (.func 132 []) [.ptr p 0] H k=k (.int 3 0) H:=λ{k}=>by
  rw [eI T.toTDisk hw hp hg,ho]
  rfl
 have hb:∀ {k},aj (aN cp t fuel (d+2)) (.func 422 []) [.ptr p 0] H k=k (.int 3 0) (H.put p {D with aZ:=D.aZ-1 }.db):=λ{k}=>tm T.toTDisk hw hp hg ho hf hfb
 rw [ax T.flush rfl rfl]
 simp only [go_sem,UY,hs,hb,DR.db,hw,hp,ho]
set_option maxRecDepth 4000 in
theorem Ok {p a} {D:DR} {es} (hw:H.wf) (hp:p<H.n) (hg:H.get p=D.db) (hm:H.get D.m = .map (eX (iK es))) (ho:D.off=false) (hl:nn D.len) (ha:a<D.len):
 aj (aN cp t fuel (d+3)) (.func 234 []) [.ptr p 0,.int 3 a] H k=k (.cH [sv ((find es a).getD (32,0)),.int 3 0]) (if (find es a).isSome=true then H else H.new (.bytes 32 0)):=by
 have hs:∀ {k},aj (aN cp t fuel (d+2)) (.func 132 []) [.ptr p 0] H k=k (.int 3 0) H:=λ{k}=>by
  rw [eI T.toTDisk hw hp hg,ho]
  rfl
 have ht:∀ {k},aj (aN cp t fuel (d+2)) (.func 354 []) [.ptr p 0,.int 3 a] H k=k (.bool true) H:=λ{k}=>by
  rw [iQ T.toTDisk hw hp hg hl (by unfold nn at hl;omega),decide_eq_true ha]
 have hlk:=mF es a
 rw [ax T.read rfl rfl]
 cases hfi:find es a with
 | some q=>
  rw [hfi]at hlk
  simp only [QK,sv]at hlk
  simp only [go_sem,US,hs,ht,DR.db,hg,hm,ho,hlk,Yl,YA2,sv]
 | none=>
  rw [hfi]at hlk
  simp only [Qj]at hlk
  simp only [go_sem,US,hs,ht,DR.db,hg,hm,hw,ho,hlk,Wq,Qi,sv]
end
end Go.Ev
end
section
namespace Go.Ev
section
variable {cp:RC->ah} {t:Nat->Option cP} {fuel d:Nat} {k:K}
theorem xO {ph} {kx} {b off n c s} {f} {Hs:Nat->Heap} {row} (hn:n<9223372036854775808) (hrow:∀ i,i<n->(Hs i).get b = .cells row) (hlen:off+n<=row.length)
 (hf:∀ i v,i<n->row[off+i]? = some v->∀ k:K,aj ph f [v] (Hs i) k=k (.bool false) (Hs (i+1))):
 ∀ (m i r) (e),i+m=n->m<r->ae s000 e = .slice b off n c s->ae s001 e=f->ae s007 e = .int 3 n->ae s010 e = .int 3 i->
  ∀ x:R,(∀ e',kx 1 e' (Hs n)=x)->jQ BJ fuel ph kx r e (Hs i)=x:=by
 have hnn:nn n:=by unfold nn;omega
 intro m
 induction m with
 | zero=>
  intro i r e hi hr h0 h1 h7 h10 x hx
  obtain ⟨r,rfl⟩:∃ q,r=q+1:=⟨r-1,by omega⟩
  have hi':i=n:=by omega
  subst hi'
  have hlt:¬ i<i:=by omega
  rw [ak]
  simp only [go_sem,BJ,h7,h10,hnn,hlt]
  exact hx _
 | succ m ih=>
  intro i r e hi hr h0 h1 h7 h10 x hx
  obtain ⟨r,rfl⟩:∃ q,r=q+1:=⟨r-1,by omega⟩
  have hlt:i<n:=by omega
  have hin:nn i:=by unfold nn;omega
  have hib:i<9223372036854775808:=by omega
  have hv:row[off+i]? = some row[off+i]:=YA (by omega)
  have hnth:∀ {id} {k},nth id row (off+i) k=k row[off+i]:=jT hv
  have hc:=hf i _ hlt hv
  have hadd:(i+1)%18446744073709551616=i+1:=by omega
  rw [ak]
  simp only [go_sem,BJ,h0,h1,h7,h10,hnn,hin,hlt,hib,hnth,hrow i hlt,hc,hadd]
  refine ih (i+1) r _ (by omega) (by omega) ?_ ?_ ?_ ?_ x hx<;>simp only [go_sem,h0,h1,h7]
theorem zm {b off n c s} {f} {Hs:Nat->Heap} {row} (h1:t 215=some (.code [s000,s001] [.tmp s004] U4)) (h2:t 178=some (.code [s000,s001] [.tmp s004] U1))
 (hn:n<9223372036854775808) (hfu:n<fuel) (hrow:∀ i,i<n->(Hs i).get b = .cells row) (hlen:off+n<=row.length)
 (hf:∀ i v,i<n->row[off+i]? = some v->∀ k:K,aj (aN cp t fuel d) f [v] (Hs i) k=k (.bool false) (Hs (i+1))):
 aj (aN cp t fuel (d+2)) (.func 356 []) [.slice b off n c s,f] (Hs 0) k=k (.bool false) (Hs n):=by
 have hi:∀ {k},aj (aN cp t fuel (d+1)) (.func 430 []) [.slice b off n c s,f] (Hs 0) k=k (.int 3 18446744073709551615) (Hs n):=λ{k}=>by
  rw [ax h1 rfl rfl]
  simp only [go_sem,U4,hn]
  refine xO (c:=c) (s:=s) hn hrow hlen hf n 0 fuel _ (by omega) hfu ?_ ?_ ?_ ?_ _ λe'=>?_<;>simp only [go_sem]
 have h5:(dA (.ge 9223372036854775808 18446744073709551616) 18446744073709551615 0=true)=False:=by
  rw [LY]
  simp
 rw [ax h2 rfl rfl]
 simp only [go_sem,U1,hi,h5]
end
end Go.Ev
end
section
namespace Go.Ev
def tN (D:List (Nat × Nat)):List (Nat × V):=D.map λp=>(p.1,.int 3 p.2)
def FK (D:List (Nat × Nat)) (a:Nat):Option Nat:=(D.find? λp=>p.1 == a).map (·.2)
def sZ:List (Nat × Nat)->Nat->Nat->List (Nat × Nat)
 | [],a,v=>[(a,v)]
 | p :: D,a,v=>if p.1=a then (p.1,v):: D else p :: sZ D a v
theorem GK:∀ (D) (a),Vx (tN D) a=(FK D a).map (V.int 3)
 | [],a=>rfl
 | p :: D,a=>by
  have ih:=GK D a
  unfold Vx FK tN at *
  simp only [YP,Qz]
  cases h:p.1 == a with
  | true=>rfl
  | false=>omega
theorem yO:∀ (D) (a v),Dw (tN D) a (.int 3 v)=tN (sZ D a v)
 | [],a,v=>rfl
 | p :: D,a,v=>by
  have ih:=yO D a v
  by_cases h:p.1=a
  .simp [tN,Dw,sZ,h]
  .simp only [tN,YP,Dw,sZ,h,if_false]
   simp only [tN]at ih
   rw [ih]
def wW (D:List (Nat × Nat)) (a:Nat):List (Nat × Nat):=sZ D a (((FK D a).getD 0+1)%18446744073709551616)
section
variable {cp:RC->ah} {t:Nat->Option cP} {fuel d:Nat} {H:Heap} {k:K}
structure TDisk3 (t:Nat->Option cP):Prop extends TDisk2 t where
 fits:t 106=some (.code [s000,s001] [.tmp s004] MV)
 fits1:t 176=some (.code [s000,s001,s002] [.tmp s004] Pu)
 index:t 215=some (.code [s000,s001] [.tmp s004] U4)
 contains:t 178=some (.code [s000,s001] [.tmp s004] U1)
variable (T:TDisk3 t)
include T
set_option maxRecDepth 4000 in
theorem JO {p a B0 B1 M} {D:DR} {es:List (Nat × (Nat × Nat))} {fr:List (Nat × Nat)} (hw:H.wf) (hp:p<H.n) (hg:H.get p=D.db) (hm:H.get D.m = .map (eX (iK es))) (h0:H.get B0 = .cells [.ptr p 0]) (h1:H.get B1 = .cells [.map M]) (hM:H.get M = .map (eX (tN fr))) (hMn:M<H.n)
 (hd0:p≠M) (hd1:D.m≠M) (hd2:B0≠M) (hd3:B1≠M) (hl:nn D.len) (ha:a<18446744073709551616):
 aj (aN cp t fuel (d+2)) (.func 352 [.ptr B0 0,.ptr B1 0]) [.int 3 a] H k=k (.bool (!decide (a<D.len))) (if (find es a).isSome=true then H else H.put M (.map (eX (tN (wW fr a))))):=by
 have ht:∀ {k},aj (aN cp t fuel (d+1)) (.func 354 []) [.ptr p 0,.int 3 a] H k=k (.bool (decide (a<D.len))) H:=λ{k}=>iQ T.toTDisk hw hp hg hl ha
 have ht2:∀ {x} {k},aj (aN cp t fuel (d+1)) (.func 354 []) [.ptr p 0,.int 3 a] (H.put M x) k=k (.bool (decide (a<D.len))) (H.put M x):=λ{x k}=>iQ T.toTDisk (by rw [Heap.bF];omega) (by rw [Heap.aR];omega) (by rw [Heap.aE hw hMn,if_neg hd0];omega) hl ha
 have hlk:=mF es a
 have hlc:=GK fr a
 rw [ax T.fits1 rfl rfl]
 cases hfi:find es a with
 | some q=>
  rw [hfi]at hlk
  simp only [QK,sv]at hlk
  simp only [go_sem,Pu,ht,DR.db,hg,hm,hw,h0,h1,hlk,YA2]
 | none=>
  rw [hfi]at hlk
  simp only [Qj]at hlk
  cases hfc:FK fr a with
  | some q=>
   rw [hfc]at hlc
   simp only [QK]at hlc
   have hu:=yO fr a ((q+1)%18446744073709551616)
   simp only [go_sem,Pu,ht2,DR.db,hg,hm,hw,h0,h1,hM,hMn,hd2,hlk,hlc,hu,wW,hfc,Qi,Yl]
  | none=>
   rw [hfc]at hlc
   simp only [Qj]at hlc
   have hu:=yO fr a 1
   simp only [go_sem,Pu,ht2,DR.db,hg,hm,hw,h0,h1,hM,hMn,hd2,hlk,hlc,hu,wW,hfc,Qi,Wq]
omit T in
def vK (es:List (Nat × (Nat × Nat))) (ns:List Nat):Nat->List (Nat × Nat)
 | 0=>[]
 | i+1=>if (find es (ns.getD i 0)).isSome=true then vK es ns i else wW (vK es ns i) (ns.getD i 0)
noncomputable def Cb (es:List (Nat × (Nat × Nat))) (ns:List Nat) (G:Heap) (M:Nat):Nat->Heap
 | 0=>G
 | i+1=>if (find es (ns.getD i 0)).isSome=true then Cb es ns G M i else (Cb es ns G M i).put M (.map (eX (tN (vK es ns (i+1)))))
omit T in
theorem RJ {es} {ns} {G} {M} (hw:G.wf) (hM:M<G.n) (h0:G.get M = .map []):∀ i,(Cb es ns G M i).wf/\(Cb es ns G M i).n=G.n/\(Cb es ns G M i).get M = .map (eX (tN (vK es ns i)))/\∀ b,b≠M->(Cb es ns G M i).get b=G.get b
 | 0=>⟨hw,rfl,h0,λ_ _=>rfl⟩
 | i+1=>by
  obtain ⟨g1,g2,g3,g4⟩:=RJ hw hM h0 i
  simp only [Cb]
  by_cases h:(find es (ns.getD i 0)).isSome=true
  .simp only [if_pos h,vK]
   exact ⟨g1,g2,g3,g4⟩
  .rw [if_neg h]
   have hn:M<(Cb es ns G M i).n:=by omega
   exact ⟨by rw [Heap.bF];omega,by rw [Heap.aR];omega,by rw [Heap.aE g1 hn,if_pos rfl],λb hb=>by rw [Heap.aE g1 hn,if_neg hb];simp_all⟩
omit T in
theorem uV:∀ (D) (a v),(sZ D a v).length<=D.length+1
 | [],a,v=>by simp [sZ]
 | p :: D,a,v=>by
  have:=uV D a v
  simp only [sZ]
  split<;>simp<;>omega
omit T in
theorem xK {es} {ns}:∀ i,(vK es ns i).length<=i
 | 0=>YB _
 | i+1=>by
  have:=xK (es:=es) (ns:=ns) i
  simp only [vK]
  split
  .omega
  .have:=uV (vK es ns i) (ns.getD i 0) (((FK (vK es ns i) (ns.getD i 0)).getD 0+1)%18446744073709551616)
   unfold wW
   omega
omit T in
theorem JM {es} {ns} {G} {M lo} (h1:lo<=G.bz) (h2:lo<=M):∀ i,lo<=(Cb es ns G M i).bz
 | 0=>h1
 | i+1=>by
  simp only [Cb]
  split
  .exact JM h1 h2 i
  .exact Heap.eY (JM h1 h2 i) h2
set_option maxRecDepth 4000 in
theorem Nw {p b off c s:Nat} {D:DR} {es:List (Nat × (Nat × Nat))} {ns:List Nat} {row:List V} (hw:H.wf) (hp:p<H.n) (hg:H.get p=D.db) (hm:H.get D.m = .map (eX (iK es))) (sD:D.m<H.n) (hb:H.get b = .cells row) (hbn:b<H.n) (ho:D.off=false) (hl:nn D.len) (hr:nn D.room)
 (hlen:off+ns.length<=row.length) (hrow:∀ i v,ns[i]? = some v->row[off+i]? = some (.int 3 v)) (hns:∀ v ∈ ns,v<D.len) (hnb:ns.length<1000000) (heb:es.length<1000000) (hfu:ns.length<fuel):
 ∃ H',(∀ (d:Nat) (k:K),aj (aN cp t fuel (d+5)) (.func 212 []) [.ptr p 0,.slice b off ns.length c s] H k=k (.bool (decide ((vK es ns ns.length).length=0\/es.length+(vK es ns ns.length).length<=D.room))) H')/\H'.wf/\H.n<=H'.n/\(∀ j,j<H.n->H'.get j=H.get j)/\∀ lo,lo<=H.bz->lo<=H.n->lo<=H'.bz:=by
 have n1:¬ p=H.n:=by omega
 have n2:¬ p=H.n+1:=by omega
 have n3:=by omega
 have n4:¬ D.m=H.n+1:=by omega
 have n5:=by omega
 have n6:=by omega
 have n7:=by omega
 have n8:¬ b=H.n+1:=by omega
 have n9:=by omega
 have m1:¬ H.n=H.n+1:=by omega
 have m2:¬ H.n=H.n+1+1:=by omega
 have m3:¬ H.n+1=H.n+1+1:=by omega
 have m4:¬ H.n+1+1=H.n+1:=by omega
 have m5:¬ H.n+1+1=H.n:=by omega
 have m6:H.n+1+1<H.n+1+1+1:=by omega
 have m7:¬ H.n+1=H.n:=by omega
 generalize hG:(((H.new (.cells [.ptr p 0])).new (.map [])).new (.cells [.yg])).put (H.n+1+1) (.cells [.map (H.n+1)])=G
 have gw:G.wf:=by rw [<- hG];simp only [Heap.bF,Heap.aX,hw]
 have gn:G.n=H.n+1+1+1:=by rw [<- hG];simp only [Heap.aR,Heap.aM]
 have gM:G.get (H.n+1) = .map []:=by rw [<- hG];simp only [Heap.aE,Heap.aD,Heap.aX,Heap.aM,hw,m6,m3,m7,if_false,if_true]
 have g0:G.get H.n = .cells [.ptr p 0]:=by rw [<- hG];simp only [Heap.aE,Heap.aD,Heap.aX,Heap.aM,hw,m6,m1,m2,if_false,if_true]
 have g1:G.get (H.n+1+1) = .cells [.map (H.n+1)]:=by rw [<- hG];simp only [Heap.aE,Heap.aD,Heap.aX,Heap.aM,hw,m6,if_true]
 have gold:∀ j,j<H.n->G.get j=H.get j:=λj hj=>by
  have e1:¬ j=H.n:=by omega
  have e2:¬ j=H.n+1:=by omega
  have e3:¬ j=H.n+1+1:=by omega
  rw [<- hG]
  simp only [Heap.aE,Heap.aD,Heap.aX,Heap.aM,hw,m6,e1,e2,e3,if_false]
 have hF:=RJ (es:=es) (ns:=ns) gw (by rw [gn];omega) gM
 obtain ⟨f1,f2,f3,f4⟩:=hF ns.length
 have hlF:=xK (es:=es) (ns:=ns) ns.length
 have hc:∀ {d} {k},aj (aN cp t fuel (d+4)) (.func 356 []) [.slice b off ns.length c s,.func 352 [.ptr H.n 0,.ptr (H.n+1+1) 0]] G k=k (.bool false) (Cb es ns G (H.n+1) ns.length):=λ{d k}=>by
  refine zm (Hs:=Cb es ns G (H.n+1)) T.index T.contains (by omega) hfu (λi hi=>?_) hlen (λi v hi hv k=>?_)
  .rw [(hF i).2.2.2 b n8,gold b hbn];exact hb
  .obtain ⟨q1,q2,q3,q4⟩:=hF i
   have hvi:ns[i]? = some ns[i]:=YA hi
   have hvn:ns.getD i 0=ns[i]:=by rw [List.getD_eq_getElem?_getD,hvi];rfl
   have hv':=hrow i _ hvi
   rw [hv]at hv'
   cases hv'
   have hlt:=hns _ (List.getElem_mem hi)
   rw [JO T q1 (by rw [q2,gn];omega) (by rw [q4 p n2,gold p hp];exact hg) (by rw [q4 D.m n4,gold D.m sD];exact hm) (by rw [q4 _ m1];exact g0) (by rw [q4 _ m4];exact g1) q3 (by rw [q2,gn];omega) n2 n4 m1 m4 hl (by unfold nn at hl;omega)]
   rw [decide_eq_true hlt]
   simp only [Cb,vK,hvn,Bool.not_true]
   by_cases h:(find es ns[i]).isSome=true
   .rw [if_pos h,if_pos h]
   .rw [if_neg h,if_neg h,if_neg h]
 have hs:∀ {d} {k},aj (aN cp t fuel (d+4)) (.func 132 []) [.ptr p 0] (H.new (.cells [.ptr p 0])) k=k (.int 3 0) (H.new (.cells [.ptr p 0])):=λ{d k}=>by
  rw [eI T.toTDisk (by simp only [Heap.aX,hw]) (by simp only [Heap.aM];omega) (by rw [Heap.aD hw,if_neg n1];exact hg),ho]
  rfl
 generalize hFn:(vK es ns ns.length).length=F at hlF
 have hFl:(eX (tN (vK es ns ns.length))).length=F:=by simp only [eX,tN,List.length_map,hFn]
 have hel:(eX (iK es)).length=es.length:=by simp [eX,iK]
 have hFnn:nn F:=by unfold nn;omega
 have hFb:F<9223372036854775808:=by omega
 have heb':es.length<9223372036854775808:=by omega
 have hp':(Cb es ns G (H.n+1) ns.length).get p=D.db:=by rw [f4 p n2,gold p hp];exact hg
 have hm':(Cb es ns G (H.n+1) ns.length).get D.m = .map (eX (iK es)):=by rw [f4 _ n4,gold _ sD];exact hm
 have h0':(Cb es ns G (H.n+1) ns.length).get H.n = .cells [.ptr p 0]:=by rw [f4 _ m1];exact g0
 have h1':(Cb es ns G (H.n+1) ns.length).get (H.n+1+1) = .cells [.map (H.n+1)]:=by rw [f4 _ m4];exact g1
 refine ⟨Cb es ns G (H.n+1) ns.length,λd k=>?_,f1,by rw [f2,gn];omega,λj hj=>by rw [f4 j (by omega),gold j hj],λlo h1 h2=>JM (by rw [<- hG];exact Heap.eY (Heap.rz (Heap.rz (Heap.rz h1))) (by omega)) (by omega) _⟩
 rw [ax T.fits rfl rfl]
 generalize Cb es ns G (H.n+1) ns.length=G' at *
 by_cases hz:F=0
 .simp only [go_sem,ZE,MV,hs,hw,m6,hG,hc,h1',f3,hFl,hz,decide_true,true_or]
 .by_cases hle:es.length<=D.room
  .have e1:nn (D.room-es.length):=by unfold nn at *;omega
   have e2:(F<=D.room-es.length)=(es.length+F<=D.room):=propext ⟨λh=>by omega,λh=>by omega⟩
   by_cases hh:es.length+F<=D.room
   .simp only [go_sem,ZE,MV,hs,hw,m6,hG,hc,h1',h0',f3,hp',hm',DR.db,hFl,hFb,hel,heb',hFnn,hz,hle,hr,e1,e2,hh,decide_true,false_or]
   .simp only [go_sem,ZE,MV,hs,hw,m6,hG,hc,h1',h0',f3,hp',hm',DR.db,hFl,hFb,hel,heb',hFnn,hz,hle,hr,e1,e2,hh,decide_false,false_or]
  .have hh:¬ es.length+F<=D.room:=by omega
   have e3:(dA (.le 9223372036854775808 18446744073709551616) F ((D.room+(18446744073709551616-es.length))%18446744073709551616)=true)=False:=by
    rw [ED]
    unfold nn at hr
    exact propext ⟨λh=>by omega,False.elim⟩
   simp only [go_sem,ZE,MV,hs,hw,m6,hG,hc,h1',h0',f3,hp',hm',DR.db,hFl,hFb,hel,heb',hz,hh,e3,decide_false,false_or]
end
end Go.Ev
end
section
namespace Go.Ev
section
variable {cp:RC->ah} {t:Nat->Option cP} {fuel d:Nat} {H:Heap} {k:K}
abbrev aY (t:Nat->Option cP):Prop:=t=t
structure jw (t:Nat->Option cP):Prop extends TDisk3 t where
 new:t 5=some (.code [s000,s001] [.tmp s004] c5)
variable (T:jw t)
include T
theorem SH {n r} (hw:H.wf) (h1:1<=n) (h2:n<=1024) (hr:nn r):
 aj (aN cp t fuel (d+1)) (.func 10 []) [.int 3 n,.int 3 r] H k=k (.ptr (H.n+1) 0) ((H.new (.map [])).new (DR.mk H.n .az n r 0 false).db):=by
 have h5:nn 0:=by unfold nn;simp
 have h6:nn 1:=by unfold nn;simp
 have h7:nn 1024:=by unfold nn;simp
 have h8:nn n:=by unfold nn;omega
 have e1:¬ n<1:=by omega
 have e2:¬ 1024<n:=by omega
 have e3:¬ r<0:=by omega
 rw [ax T.new rfl rfl]
 simp only [go_sem,c5,DR.db,hw,hr,h5,h6,h7,h8,e1,e2,e3]
end
end Go.Ev
end
section
namespace Go.Ev
abbrev Tx:=Nat × Nat
structure AD where
 len:Nat
 room:Nat
 aZ:Nat
 off:Bool
 es:List (Nat × Tx)
 us:List (Nat × Tx × Bool)
def Ru (u:Nat × Tx × Bool):List V:=[.int 3 u.1,sv u.2.1,.bool u.2.2]
def Nq (us:List (Nat × Tx × Bool)):List V:=us.flatMap Ru
theorem FB (us):(Nq us).length=us.length*3:=by
 induction us with
 | nil=>rfl
 | cons u us ih=>simp only [Nq,Wb,YC,YH]at ih ⊢;simp only [Ru,YH,YO];omega
def cN (H:Heap) (p:Nat) (A:AD) (O:Nat->Prop):Prop:=
 ∃ D:DR,vY H p D A.es (Nq A.us)/\D.len=A.len/\D.room=A.room/\D.aZ=A.aZ/\D.off=A.off/\O=D.owns p
structure Step (H:Heap) (O:Nat->Prop) (H':Heap) (O':Nat->Prop):Prop where
 wf:H'.wf
 n:H.n<=H'.n
 same:∀ b,b<H.n->¬ O b->H'.get b=H.get b/\¬ O' b
 lo:∀ lo,lo<=H.bz->lo<=H.n->(∀ b,O b->lo<=b)->lo<=H'.bz/\∀ b,O' b->lo<=b
theorem Step.refl {H:Heap} {O:Nat->Prop} (h:H.wf):Step H O H O:=⟨h,YB _,λ_ _ h=>⟨rfl,h⟩,λ_ h _ h'=>⟨h,h'⟩⟩
theorem Step.trans {H H1 H2:Heap} {O O1 O2:Nat->Prop} (h:Step H O H1 O1) (g:Step H1 O1 H2 O2):Step H O H2 O2:=
 ⟨g.wf,Yr h.n g.n,λb hb ho=>let ⟨e,o⟩:=h.same b hb ho;let ⟨e',o'⟩:=g.same b (YD hb h.n) o; ⟨e'.trans e,o'⟩,
  λlo h1 h2 h3=>let ⟨e,o⟩:=h.lo lo h1 h2 h3;g.lo lo e (Yr h2 h.n) o⟩
structure af (H H':Heap):Prop where
 wf:H'.wf
 n:H.n<=H'.n
 same:∀ b,b<H.n->H'.get b=H.get b
 lo:∀ lo,lo<=H.bz->lo<=H.n->lo<=H'.bz
theorem af.refl {H:Heap} (h:H.wf):af H H:=⟨h,YB _,λ_ _=>rfl,λ_ h _=>h⟩
theorem af.trans {H H1 H2:Heap} (h:af H H1) (g:af H1 H2):af H H2:=
 ⟨g.wf,Yr h.n g.n,λb hb=>(g.same b (YD hb h.n)).trans (h.same b hb),λlo h1 h2=>g.lo lo (h.lo lo h1 h2) (Yr h2 h.n)⟩
theorem af.new {H:Heap} {x:eK} (h:H.wf):af H (H.new x):=
 ⟨by rw [Heap.aX];exact h,by rw [Heap.aM];omega,λb hb=>by rw [Heap.aD h,if_neg (by omega)],λ_ h _=>h⟩
theorem af.put {H H1:Heap} {b:Nat} {x:eK} (h:af H H1) (h1:H.n<=b) (h2:b<H1.n):af H (H1.put b x):=
 ⟨by rw [Heap.bF];exact h.wf,by rw [Heap.aR];exact h.n,λj hj=>by rw [Heap.aE h.wf h2,if_neg (by omega)];exact h.same j hj,λlo h3 h4=>Heap.eY (h.lo lo h3 h4) (by omega)⟩
theorem af.step {H H':Heap} {O:Nat->Prop} (h:af H H'):Step H O H' O:=⟨h.wf,h.n,λb hb ho=>⟨h.same b hb,ho⟩,λlo h1 h2 h3=>⟨h.lo lo h1 h2,h3⟩⟩
theorem cN.wf {H:Heap} {p:Nat} {A:AD} {O:Nat->Prop} (h:cN H p A O):H.wf:=let ⟨_,h,_⟩:=h;h.wf
theorem cN.lt {H:Heap} {p:Nat} {A:AD} {O:Nat->Prop} (h:cN H p A O):∀ b,O b->b<H.n:=by
 obtain ⟨D,h,_,_,_,_,rfl⟩:=h
 rintro b (e|e|⟨o,m,c,s,e⟩)
 .rw [e];exact h.hp
 .rw [e];exact h.sD
 .rcases h.T4 with ⟨hu,_⟩|⟨ub,n,hu,_,_,_,hub,_⟩
  .rw [hu]at e;cases e
  .rw [hu]at e;cases e;exact hub
theorem cN.cG {H H':Heap} {p:Nat} {A:AD} {O Q Q':Nat->Prop} (h:cN H p A O) (s:Step H Q H' Q') (hd:∀ b,O b->¬ Q b):cN H' p A O/\∀ b,O b->¬ Q' b:=by
 refine ⟨?_,λb hb=>(s.same b (h.lt b hb) (hd b hb)).2⟩
 obtain ⟨D,h,h1,h2,h3,h4,rfl⟩:=h
 refine ⟨D,⟨s.wf,YD h.hp s.n,?_,?_,YD h.sD s.n,h.Ch,?_,h.hl,h.hr,h.hf,h.he⟩,h1,h2,h3,h4,rfl⟩
 .rw [(s.same p h.hp (hd p (YG rfl))).1];exact h.hg
 .rw [(s.same _ h.sD (hd _ (YE (YG rfl)))).1];exact h.hm
 .rcases h.T4 with hu|⟨ub,n,hu,g1,g2,g3,g4,g5⟩
  .exact YG hu
  .exact YE ⟨ub,n,hu,g1,g2,by rw [(s.same ub g4 (hd ub (YE (YE ⟨_,_,_,_,hu⟩)))).1];exact g3,YD g4 s.n,g5⟩
theorem cN.fresh {H H':Heap} {p:Nat} {A:AD} {O:Nat->Prop} (h:cN H p A O) (s:af H H'):cN H' p A O:=
 (h.cG (Q:=λ_=>False) (s.step) λ_ _ h=>h).1
theorem cN.own {H:Heap} {p:Nat} {A:AD} {O:Nat->Prop} (h:cN H p A O):O p:=by
 obtain ⟨D,h,_,_,_,_,rfl⟩:=h
 exact YG rfl
def AD.Na (A:AD):AD:={A with aZ:=0,off:=true }
def AD.write (A:AD) (a:Nat) (x:Nat):AD × Nat:=
 if A.aZ=1 then (A.Na,6) else
  ({A with aZ:=A.aZ-1,us:=A.us ++ [(a,(find A.es a).getD (0,0),(find A.es a).isSome)],es:=eS A.es a (32,x)},0)
def AD.flush (A:AD):AD × Nat:=if A.aZ=1 then (A.Na,6) else ({A with aZ:=A.aZ-1,us:=[]},0)
def AD.read (A:AD) (a:Nat):Tx:=(find A.es a).getD (32,0)
section
variable {cp:RC->ah} {t:Nat->Option cP} {fuel:Nat} {H:Heap}
theorem Ed (T:jw t) {p d} {D:DR} {k} (hw:H.wf) (hp:p<H.n) (hg:H.get p=D.db) (hf:D.aZ=1):
 aj (aN cp t fuel (d+2)) (.func 422 []) [.ptr p 0] H k=k (.int 3 6) (H.put p {D with aZ:=0,off:=true }.db):=by
 have h5:nn 0:=by unfold nn;simp
 have hs:∀ {k},aj (aN cp t fuel (d+1)) (.func 132 []) [.ptr p 0] (H.put p {D with aZ:=0,off:=true }.db) k=k (.int 3 6) (H.put p {D with aZ:=0,off:=true }.db):=λ{k}=>by
  rw [eI T.toTDisk (by rw [Heap.bF];omega) (by rw [Heap.aR];omega) (by rw [Heap.aE hw hp,if_pos rfl])]
  rfl
 have ho:∀ {x} {k},x={D with aZ:=0 }.db->aj (aN cp t fuel (d+1)) (.func 36 []) [.ptr p 0] (H.put p x) k=k (.cH []) (H.put p {D with aZ:=0,off:=true }.db):=λ{x k} hx=>by
  rw [SN T.toTDisk (by rw [Heap.bF];omega) (by rw [Heap.aR];omega) (by rw [Heap.aE hw hp,if_pos rfl];omega),Heap.iU]
 have ho':=λ{k}=>ho (k:=k) rfl
 simp only [DR.db]at hs ho'
 rw [ax T.ZT rfl rfl]
 have h4:max 0 0=0:=rfl
 simp only [go_sem,Pv,DR.db,hg,hw,hp,hf,h4,h5,hs,ho']
theorem ON (T:jw t) {p d a x} {D:DR} {es} {k} (hw:H.wf) (hp:p<H.n) (hg:H.get p=D.db) (hm:H.get D.m = .map (eX (iK es))) (sD:D.m<H.n) (Ch:D.m≠p) (ho:D.off=false) (hf:D.aZ=1) (hl:nn D.len) (hr:nn D.room) (he:es.length<9223372036854775808)
 (ha:a<D.len) (hroom:(find es a).isSome=true\/es.length<D.room):
 aj (aN cp t fuel (d+3)) (.func 330 []) [.ptr p 0,.int 3 a,.str 32 x] H k=k (.int 3 6) (H.put p {D with aZ:=0,off:=true }.db):=by
 have hs:∀ {k},aj (aN cp t fuel (d+2)) (.func 132 []) [.ptr p 0] H k=k (.int 3 0) H:=λ{k}=>by
  rw [eI T.toTDisk hw hp hg,ho]
  rfl
 have ht:∀ {k},aj (aN cp t fuel (d+2)) (.func 354 []) [.ptr p 0,.int 3 a] H k=k (.bool true) H:=λ{k}=>by
  rw [iQ T.toTDisk hw hp hg hl (by unfold nn at hl;omega),decide_eq_true ha]
 have hb:∀ {k},aj (aN cp t fuel (d+2)) (.func 422 []) [.ptr p 0] H k=k (.int 3 6) (H.put p {D with aZ:=0,off:=true }.db):=λ{k}=>Ed T hw hp hg hf
 rw [ax T.write rfl rfl]
 have hlk:=mF es a
 have hel:(eX (iK es)).length=es.length:=by simp [eX,iK]
 have hnn:nn es.length:=by unfold nn;omega
 cases hfi:find es a with
 | some q=>
  rw [hfi]at hlk
  simp only [QK,sv]at hlk
  simp only [go_sem,ZE,Ee,hs,ht,hb,DR.db,hg,hm,ho,hlk]
 | none=>
  rw [hfi]at hlk
  simp only [Qj]at hlk
  have hrm:¬ D.room<=es.length:=by
   grind
  simp only [go_sem,ZE,Ee,hs,ht,hb,DR.db,hg,hm,ho,hlk,hel,hnn,hr,he,hrm]
theorem Ny (T:jw t) {p d} {D:DR} {k} (hw:H.wf) (hp:p<H.n) (hg:H.get p=D.db) (ho:D.off=false) (hf:D.aZ=1):
 aj (aN cp t fuel (d+3)) (.func 332 []) [.ptr p 0] H k=k (.int 3 6) (H.put p {D with aZ:=0,off:=true }.db):=by
 have hs:∀ {k},aj (aN cp t fuel (d+2)) (.func 132 []) [.ptr p 0] H k=k (.int 3 0) H:=λ{k}=>by
  rw [eI T.toTDisk hw hp hg,ho]
  rfl
 have hb:∀ {k},aj (aN cp t fuel (d+2)) (.func 422 []) [.ptr p 0] H k=k (.int 3 6) (H.put p {D with aZ:=0,off:=true }.db):=λ{k}=>Ed T hw hp hg hf
 rw [ax T.flush rfl rfl]
 simp only [go_sem,UY,hs,hb,DR.db]
theorem cN.put {p:Nat} {D:DR} {es:List (Nat × Tx)} {us:List V} (h:vY H p D es us) {r f:Nat} {o:Bool} (hr:nn r) (hf:nn f):
 vY (H.put p {D with room:=r,aZ:=f,off:=o }.db) p {D with room:=r,aZ:=f,off:=o } es us/\Step H (D.owns p) (H.put p {D with room:=r,aZ:=f,off:=o }.db) (D.owns p):=by
 have hw:=h.wf
 have hp:=h.hp
 have e1:∀ b,b≠p->(H.put p {D with room:=r,aZ:=f,off:=o }.db).get b=H.get b:=λb hb=>by rw [Heap.aE hw hp,if_neg hb]
 refine ⟨⟨by rw [Heap.bF];exact hw,by rw [Heap.aR];exact hp,by rw [Heap.aE hw hp,if_pos rfl],(e1 _ h.Ch).trans h.hm,by rw [Heap.aR];exact h.sD,h.Ch,?_,h.hl,hr,hf,h.he⟩,by rw [Heap.bF];exact hw,by rw [Heap.aR];exact YB _,λb hb ho=>⟨e1 b λe=>ho (YG e),ho⟩,λlo h1 h2 h3=>⟨Heap.eY h1 (h3 p (YG rfl)),h3⟩⟩
 rcases h.T4 with hu|⟨ub,n,hu,g1,g2,g3,g4,g5,g6⟩
 .exact YG hu
 .exact YE ⟨ub,n,hu,g1,g2,(e1 ub g5).trans g3,by rw [Heap.aR];exact g4,g5,g6⟩
theorem Lt (T:jw t) {p a x:Nat} {A:AD} {O:Nat->Prop} (h:cN H p A O) (ho:A.off=false) (hub:A.us.length<100000) (heb:A.es.length<1000000) (ha:a<A.len) (hroom:(find A.es a).isSome=true\/A.es.length<A.room):
 ∃ H' O',(∀ (d:Nat) (k:K),aj (aN cp t fuel (d+3)) (.func 330 []) [.ptr p 0,.int 3 a,.str 32 x] H k=k (.int 3 (A.write a x).2) H')/\cN H' p (A.write a x).1 O'/\Step H O H' O':=by
 obtain ⟨D,h,h1,h2,h3,h4,rfl⟩:=h
 by_cases hf:A.aZ=1
 .obtain ⟨g1,g2⟩:=cN.put h (f:=0) (o:=true) h.hr (by unfold nn;omega)
  refine ⟨_,DR.owns D p,λd k=>?_,⟨{D with aZ:=0,off:=true },?_,?_⟩,g2⟩
  .rw [ON T h.wf h.hp h.hg h.hm h.sD h.Ch (h4.trans ho) (h3.trans hf) h.hl h.hr h.he (by omega) (by simp_all)]
   simp only [AD.write,if_pos hf]
  .simp only [AD.write,if_pos hf,AD.Na];omega
  .rw [show (A.write a x).1=A.Na by simp only [AD.write,if_pos hf]];exact ⟨h1,h2,rfl,rfl,rfl⟩
 .obtain ⟨H',D',g1,g2,g3,g4,g5,g6,g7,g8,g9,g10⟩:=Uk T.toTDisk (a:=a) h (h4.trans ho) (by omega) (by rw [FB];omega) heb (by omega) (by simp_all)
  refine ⟨H',D'.owns p,λd k=>?_,⟨D',?_,?_⟩,g2.wf,g8,g9,g10⟩
  .rw [g1];simp only [AD.write,if_neg hf]
  .simp only [AD.write,if_neg hf]
   have:Nq (A.us ++ [(a,(find A.es a).getD (0,0),(find A.es a).isSome)])=Nq A.us ++ [.int 3 a,sv ((find A.es a).getD (0,0)),.bool (find A.es a).isSome]:=by
    simp only [Nq,Wj,Wb,List.flatMap_nil,YR,Ru]
   simp_all
  .simp only [AD.write,if_neg hf]
   simp_all
theorem Nx (T:jw t) {p:Nat} {A:AD} {O:Nat->Prop} (h:cN H p A O) (ho:A.off=false):
 ∃ H' O',(∀ (d:Nat) (k:K),aj (aN cp t fuel (d+3)) (.func 332 []) [.ptr p 0] H k=k (.int 3 A.flush.2) H')/\cN H' p A.flush.1 O'/\Step H O H' O':=by
 obtain ⟨D,h,h1,h2,h3,h4,rfl⟩:=h
 have hw:=h.wf
 have hp:=h.hp
 by_cases hf:A.aZ=1
 .obtain ⟨g1,g2⟩:=cN.put h (f:=0) (o:=true) h.hr (by unfold nn;omega)
  refine ⟨_,DR.owns D p,λd k=>?_,⟨{D with aZ:=0,off:=true },?_,?_⟩,g2⟩
  .rw [Ny T h.wf h.hp h.hg (h4.trans ho) (h3.trans hf)]
   simp only [AD.flush,if_pos hf]
  .simp only [AD.flush,if_pos hf,AD.Na];omega
  .rw [show A.flush.1=A.Na by simp only [AD.flush,if_pos hf]];exact ⟨h1,h2,rfl,rfl,rfl⟩
 .have e1:∀ b,b≠p->(H.put p {D with aZ:=D.aZ-1,u:=.az }.db).get b=H.get b:=λb hb=>by rw [Heap.aE hw hp,if_neg hb]
  refine ⟨H.put p (DR.db {D with aZ:=D.aZ-1,u:=.az }),DR.owns {D with aZ:=D.aZ-1,u:=.az } p,λd k=>?_,⟨{D with aZ:=D.aZ-1,u:=.az },?_,?_⟩,?_⟩
  .rw [JR T.toTDisk2 hw hp h.hg (h4.trans ho) (by omega) h.hf]
   simp only [AD.flush,if_neg hf]
  .simp only [AD.flush,if_neg hf]
   exact ⟨by rw [Heap.bF];omega,by rw [Heap.aR];omega,by rw [Heap.aE hw hp,if_pos rfl],(e1 _ h.Ch).trans h.hm,by rw [Heap.aR];exact h.sD,h.Ch,YG ⟨rfl,rfl⟩,h.hl,h.hr,by have:=h.hf;unfold nn at *;grind,h.he⟩
  .simp only [AD.flush,if_neg hf]
   simp_all
  .refine ⟨by rw [Heap.bF];omega,by rw [Heap.aR];simp,λb hb hno=>⟨e1 b λe=>hno (YG e),?_⟩,λlo h1 h2 h3=>⟨Heap.eY h1 (h3 p (YG rfl)),?_⟩⟩
   .rintro (e|e|⟨o,m,c,s,e⟩)
    .exact hno (YG e)
    .exact hno (YE (YG e))
    simp_all
   .rintro b (e|e|⟨o,m,c,s,e⟩)
    .exact h3 b (YG e)
    .exact h3 b (YE (YG e))
    simp_all
theorem pQ (T:jw t) {p a} {A} {O} (h:cN H p A O) (ho:A.off=false) (ha:a<A.len):
 ∃ H',(∀ (d) (k),aj (aN cp t fuel (d+3)) (.func 234 []) [.ptr p 0,.int 3 a] H k=k (.cH [sv (A.read a),.int 3 0]) H')/\af H H':=by
 obtain ⟨D,h,h1,h2,h3,h4,rfl⟩:=h
 refine ⟨_,λd k=>Ok T.toTDisk2 h.wf h.hp h.hg h.hm (h4.trans ho) h.hl (by omega),?_⟩
 split
 .exact af.refl h.wf
 .exact af.new h.wf
theorem Km (T:jw t) {p d} {k} {A} {O} (h:cN H p A O):
 aj (aN cp t fuel (d+2)) (.func 278 []) [.ptr p 0] H k=k (.bool (!A.off)) H:=by
 obtain ⟨D,h,h1,h2,h3,h4,rfl⟩:=h
 rw [VN T.toTDisk2 h.wf h.hp h.hg,h4]
theorem sH (T:jw t) {p d} {k} {A} {O} (h:cN H p A O):
 aj (aN cp t fuel (d+1)) (.func 74 []) [.ptr p 0] H k=k (.int 3 A.len) H:=by
 obtain ⟨D,h,h1,h2,h3,h4,rfl⟩:=h
 rw [So T.toTDisk2 h.wf h.hp h.hg,h1]
theorem VD (T:jw t) {n r} (hw:H.wf) (h1:1<=n) (h2:n<=1024) (hr:nn r):
 ∃ H' p O,(∀ (d) (k),aj (aN cp t fuel (d+1)) (.func 10 []) [.int 3 n,.int 3 r] H k=k (.ptr p 0) H')/\cN H' p ⟨n,r,0,false,[],[]⟩ O/\af H H'/\∀ b,O b->H.n<=b:=by
 refine ⟨_,H.n+1,DR.owns ⟨H.n,.az,n,r,0,false⟩ (H.n+1),λd k=>SH T hw h1 h2 hr,⟨⟨H.n,.az,n,r,0,false⟩,⟨by simp only [Heap.aX,hw],by simp only [Heap.aM];omega,?_,?_,by simp only [Heap.aM];omega,by simp,YG ⟨rfl,rfl⟩,by show nn n;unfold nn;omega,hr,by show nn 0;unfold nn;omega,by simp⟩,rfl,rfl,rfl,rfl,rfl⟩,af.trans (af.new hw) (af.new (by rw [Heap.aX];omega)),?_⟩
 .rw [Heap.aD (by rw [Heap.aX];omega),if_pos (by rfl)]
 .rw [Heap.aD (by rw [Heap.aX];omega),if_neg (by rw [Heap.aM];simp),Heap.aD hw,if_pos rfl];rfl
 .rintro b (e|e|⟨o,m,c,s,e⟩)
  .omega
  .simp_all
  simp_all
end
end Go.Ev
end
section
namespace Go.Ev
theorem aA.jh {t:Nat->Option cP} (T:aA t) (h:aY t):jw t:=
 {off:=T.k18,state:=T.k66,ZT:=T.aex,there:=T.aeh,write:=T.ad7,
  flush:=T.ad8,read:=T.adH,
  len:=T.k37,on:=T.adT,
  fits:=T.adG,fits1:=T.aeg,index:=T.aeA,contains:=T.aei,
  new:=T.k5 }
abbrev Wr:=Nat × Tx
def X8 (w:Wr):List V:=[.int 3 w.1,.str w.2.1 w.2.2]
def bC (ws:List Wr):List V:=ws.flatMap X8
theorem mA (w) (ws):bC (w :: ws) = .int 3 w.1 :: .str w.2.1 w.2.2 :: bC ws:=rfl
theorem er (ws us):bC (ws ++ us)=bC ws ++ bC us:=by simp only [bC,Wj]
theorem dh (ws):(bC ws).length=ws.length*2:=by
 induction ws with
 | nil=>rfl
 | cons w ws ih=>rw [mA];simp only [YH,ih];omega
theorem qh (pre ws):(bC (pre ++ ws)).drop (pre.length*2)=bC ws:=by
 rw [er,<- dh,List.drop_left]
def mU (H:Heap) (v:V) (ws:List Wr) (O:Nat->Prop):Prop:=(v = .az/\ws=[])\/∃ b c s,v = .slice b 0 ws.length c s/\H.get b = .cells (bC ws)/\b<H.n/\¬ O b
theorem mU.cG {H H':Heap} {v:V} {ws:List Wr} {O O':Nat->Prop} (h:mU H v ws O) (s:Step H O H' O'):mU H' v ws O':=by
 rcases h with h|⟨b,c,z,h1,h2,h3,h4⟩
 .exact YG h
 .exact YE ⟨b,c,z,h1,by rw [(s.same b h3 h4).1];exact h2,YD h3 s.n,(s.same b h3 h4).2⟩
theorem mU.fresh {H H':Heap} {v:V} {ws:List Wr} {O:Nat->Prop} (h:mU H v ws O) (s:af H H'):mU H' v ws O:=h.cG s.step
def my (l:List Nat):List (Nat × V):=l.map λa=>(a,.int 3 1)
theorem xY:∀ (l) (a),Vx (my l) a=if a ∈ l then some (.int 3 1) else none
 | [],a=>rfl
 | b :: l,a=>by
  have ih:=xY l a
  unfold Vx my at *
  simp only [YP,Qz,List.mem_cons]
  by_cases h:a=b
  .simp_all
  .have hb:(b == a)=false:=by simpa using λe=>h e.symm
   simp only [hb,h,false_or]
   omega
theorem yP:∀ (l) (a),a ∉ l->Dw (my l) a (.int 3 1)=my (l ++ [a])
 | [],a,_=>rfl
 | b :: l,a,h=>by
  have hb:¬ b=a:=λe=>h (by simp [e])
  have ih:=yP l a λh'=>h (YI _ h')
  simp only [my,YP,YL,Dw,hb,if_false]
  simp only [my]at ih
  rw [ih]
def qO (len:Nat) (w:Wr):Prop:=145<=w.1/\w.1<len/\w.2.1=32
instance (len:Nat) (w:Wr):Decidable (qO len w):=by unfold qO;infer_instance
def iq (len:Nat):List Nat->List Wr->Bool
 | _,[]=>true
 | seen,w :: ws=>if qO len w/\w.1 ∉ seen then iq len (seen ++ [w.1]) ws else false
section
variable {cp:RC->ah} {t:Nat->Option cP} {fuel:Nat} {H:Heap}
theorem nH (T:aA t) (hc:aY t) {p d} {A} {O} {k} (h:cN H p A O):
 aj (aN cp t fuel (d+3)) (.func 194 []) [.ptr p 0] H k=k (.int 3 (if A.off=true then 6 else 0)) H:=by
 have ho:∀ {k},aj (aN cp t fuel (d+2)) (.func 278 []) [.ptr p 0] H k=k (.bool (!A.off)) H:=λ{k}=>Km (T.jh hc) h
 rw [ax T.k97 rfl rfl]
 cases hA:A.off<;>rw [hA]at ho<;>simp only [go_sem,c97,ho]
end
end Go.Ev
end
section
namespace Go.Ev
section
variable {cp:RC->ah} {t:Nat->Option cP} {fuel:Nat} {H:Heap}
set_option maxRecDepth 4000 in
theorem AM (T:aA t) (hc:aY t) {d p b c s M i n:Nat} {A:AD} {O:Nat->Prop} {G:Heap} {w:Wr} {pre ws:List Wr} {seen:List Nat} {kn:KE} {kx:Nat->KE} {e:Env}
 (hD:cN G p A O) (hl:nn A.len) (hw1:w.1<18446744073709551616) (hw2:w.2.1<1000000) (hb:G.get b = .cells (bC (pre ++ w :: ws))) (hbn:b<G.n) (hM:G.get M = .map (eX (my seen))) (hMn:M<G.n) (hbM:b≠M) (hpM:p≠M)
 (hn:n=(pre ++ w :: ws).length) (hnb:n<1000000) (hi:i=pre.length)
 (h0:ae s000 e = .ptr p 0) (h5:ae s005 e = .map M) (h11:ae s011 e = .slice b 0 n c s) (h12:ae s012 e = .int 3 n) (h13:ae s013 e = .int 3 i) {x:R}
 (hT:qO A.len w/\w.1 ∉ seen->∀ e',ae s000 e' = .ptr p 0->ae s005 e' = .map M->ae s011 e' = .slice b 0 n c s->ae s012 e' = .int 3 n->ae s013 e' = .int 3 (i+1)->
  kn e' (((G.new (.cells [.int 3 0,.str 0 0])).put G.n (.cells [.int 3 w.1,.str w.2.1 w.2.2])).put M (.map (eX (my (seen ++ [w.1])))))=x)
 (hF:¬ (qO A.len w/\w.1 ∉ seen)->∀ e',ae s004 e' = .bool false->kx 0 e' ((G.new (.cells [.int 3 0,.str 0 0])).put G.n (.cells [.int 3 w.1,.str w.2.1 w.2.2]))=x):
 eR lO fuel (aN cp t fuel (d+1)) e G kn kx=x:=by
 have hw:=hD.wf
 have hlt:i<n:=by rw [hi,hn];simp only [YC,YH];omega
 have e1:nn i:=by unfold nn;omega
 have e2:nn n:=by unfold nn;omega
 have e3:i<9223372036854775808:=by omega
 have e4:i*2<=(bC (pre ++ w :: ws)).length:=by rw [dh,<- hn];omega
 have hd:(bC (pre ++ w :: ws)).drop (i*2) = .int 3 w.1 :: .str w.2.1 w.2.2 :: bC ws:=by rw [hi,qh];rfl
 have e5:=by omega
 have e6:=by omega
 have e7:=by omega
 have e8:G.n<G.n+1:=by omega
 have e9:(i+1)%18446744073709551616=i+1:=by omega
 have e10:=by omega
 have n145:nn 145:=by unfold nn;omega
 have n0:nn 0:=by unfold nn;omega
 have n1:nn 1:=by unfold nn;omega
 have e11:w.2.1<9223372036854775808:=by omega
 generalize hG2:(G.new (.cells [.int 3 0,.str 0 0])).put G.n (.cells [.int 3 w.1,.str w.2.1 w.2.2])=G2 at hT hF
 have f2:af G G2:=by rw [<- hG2];exact af.put (af.new hw) (YB _) (by simp only [Heap.aM];omega)
 have g2n:G2.get G.n = .cells [.int 3 w.1,.str w.2.1 w.2.2]:=by rw [<- hG2];simp only [Heap.aE,Heap.aD,Heap.aX,Heap.aM,hw,e8,if_true]
 have g2M:G2.get M = .map (eX (my seen)):=by rw [f2.same M hMn];exact hM
 have g2w:=f2.wf
 have g2Mn:=YD hMn f2.n
 have hD2:cN G2.mark p A O:=by
  obtain ⟨D,q,r⟩:=hD.fresh f2
  exact ⟨D,⟨q.wf,q.hp,q.hg,q.hm,q.sD,q.Ch,q.T4,q.hl,q.hr,q.hf,q.he⟩,r⟩
 have hL:∀ {k},aj (aN cp t fuel (d+1)) (.func 74 []) [.ptr p 0] G2.mark k=k (.int 3 A.len) G2.mark:=λ{k}=>sH (T.jh hc) hD2
 have hlk:=xY seen w.1
 by_cases hg:qO A.len w
 .obtain ⟨q1,q2,q3⟩:=hg
  have e12:nn w.1:=by unfold nn at *;omega
  have e13:¬ w.1<145:=by omega
  have e14:¬ A.len<=w.1:=by omega
  have e15:=eq_true q3
  by_cases hs:w.1 ∈ seen
  .rw [if_pos hs]at hlk
   simp only [go_sem,ZE,lO,h0,h5,h11,h12,h13,hlt,e1,e2,e3,e4,hd,e8,hb,hw,hG2,g2n,g2M,hL,hlk,e11,e12,e13,e14,n145,n0,n1,hl,e15,F7]
   exact hF (λh=>h.2 hs) _ rfl
  .rw [if_neg hs]at hlk
   have hu:=yP seen w.1 hs
   simp only [go_sem,ZE,lO,h0,h5,h11,h12,h13,hlt,e1,e2,e3,e4,hd,e8,e9,hb,hw,hG2,g2n,g2M,g2w,hL,hlk,e11,e12,e13,e14,n145,n0,hl,e15,F7,hu,g2Mn]
   refine hT ⟨⟨q1,q2,q3⟩,hs⟩ _ ?_ ?_ ?_ ?_ ?_<;>simp only [go_sem,h0,h5,h11,h12]
 .have hF':=hF (λh=>hg h.1)
  unfold qO at hg
  by_cases q1:(dA (.lt 9223372036854775808 18446744073709551616) w.1 145=true)
  .simp only [go_sem,lO,h11,h12,h13,hlt,e1,e2,e3,e4,hd,e8,hb,hw,hG2,g2n,q1]
   exact hF' _ rfl
  .have q1':=q1
   rw [LZ]at q1
   have e12:nn w.1:=by unfold nn;omega
   have e13:¬ w.1<145:=by omega
   by_cases q2:A.len<=w.1
   .simp only [go_sem,lO,h0,h11,h12,h13,hlt,e1,e2,e3,e4,hd,e8,hb,hw,hG2,g2n,hL,e12,e13,n145,hl,q2,F7]
    exact hF' _ rfl
   .have q3:¬ w.2.1=32:=λh=>hg ⟨by omega,by omega,h⟩
    simp only [go_sem,lO,h0,h11,h12,h13,hlt,e1,e2,e3,e4,hd,e8,hb,hw,hG2,g2n,hL,e11,e12,e13,n145,hl,q2,q3,F7]
    exact hF' _ rfl
theorem St (T:aA t) (hc:aY t) {p b c s M n} {A} {O} {all}
 (hD:cN H p A O) (hl:nn A.len) (hall:∀ w ∈ all,w.1<18446744073709551616/\w.2.1<1000000) (hb:H.get b = .cells (bC all)) (hbn:b<H.n) (hM0:H.n<=M) (hn:n=all.length) (hnb:n<1000000):
 ∀ (ws pre) (seen) (G),all=pre ++ ws->af H G->M<G.n->G.get M = .map (eX (my seen))->
 ∃ G',af H G'/\∀ (d) (kx) (r) (e),ws.length<r->ae s000 e = .ptr p 0->ae s005 e = .map M->ae s011 e = .slice b 0 n c s->ae s012 e = .int 3 n->ae s013 e = .int 3 pre.length->
  ∀ x:R,(iq A.len seen ws=true->∀ e',kx 1 e' G'=x)->(iq A.len seen ws=false->∀ e',ae s004 e' = .bool false->kx 0 e' G'=x)->
  jQ lO fuel (aN cp t fuel (d+1)) kx r e G=x:=by
 intro ws
 induction ws with
 | nil=>
  intro pre seen G hal f hMn hM
  refine ⟨G,f,λd kx r e hr h0 h5 h11 h12 h13 x hT hF=>?_⟩
  obtain ⟨r,rfl⟩:∃ q,r=q+1:=⟨r-1,by omega⟩
  have hi:pre.length=n:=by rw [hn,hal,YR]
  have e1:¬ n<n:=by omega
  have e2:nn n:=by unfold nn;omega
  rw [ak]
  rw [hi]at h13
  simp only [go_sem,lO,h12,h13,e1,e2]
  exact hT rfl _
 | cons w ws ih=>
  intro pre seen G hal f hMn hM
  have hbM:b≠M:=by omega
  have hpM:p≠M:=by have:=hD.lt p hD.own;omega
  have hw:=f.wf
  have hGM:=by omega
  have hn':n=(pre ++ w :: ws).length:=by rw [hn,hal]
  have hw12:=hall w (by rw [hal];simp)
  have hb':G.get b = .cells (bC (pre ++ w :: ws)):=by rw [f.same b hbn,hb,hal]
  have hbG:=YD hbn f.n
  have f1:af H ((G.new (.cells [.int 3 0,.str 0 0])).put G.n (.cells [.int 3 w.1,.str w.2.1 w.2.2])):=af.put (f.trans (af.new hw)) f.n (by simp only [Heap.aM];omega)
  have m1:M<((G.new (.cells [.int 3 0,.str 0 0])).put G.n (.cells [.int 3 w.1,.str w.2.1 w.2.2])).n:=by simp only [Heap.aR,Heap.aM];omega
  by_cases hg:qO A.len w/\w.1 ∉ seen
  .obtain ⟨G',f',hG'⟩:=ih (pre ++ [w]) (seen ++ [w.1]) (((G.new (.cells [.int 3 0,.str 0 0])).put G.n (.cells [.int 3 w.1,.str w.2.1 w.2.2])).put M (.map (eX (my (seen ++ [w.1]))))) (by rw [hal];simp) (af.put f1 hM0 m1) (by simp only [Heap.aR,Heap.aM];omega) (by rw [Heap.aE f1.wf m1,if_pos rfl])
   refine ⟨G',f',λd kx r e hr h0 h5 h11 h12 h13 x hT hF=>?_⟩
   obtain ⟨r,rfl⟩:∃ q,r=q+1:=⟨r-1,by omega⟩
   have hm:iq A.len seen (w :: ws)=iq A.len (seen ++ [w.1]) ws:=by simp only [iq,if_pos hg]
   rw [hm]at hT hF
   refine AM T hc (hD.fresh f) hl hw12.1 hw12.2 hb' hbG hM hMn hbM hpM hn' hnb rfl h0 h5 h11 h12 h13 (λ_ e' g0 g5 g11 g12 g13=>?_) (λh=>absurd hg h)
   exact hG' d kx r e' (by simp only [YH]at hr;omega) g0 g5 g11 g12 (by rw [g13];simp) x hT hF
  .refine ⟨_,f1,λd kx r e hr h0 h5 h11 h12 h13 x hT hF=>?_⟩
   obtain ⟨r,rfl⟩:∃ q,r=q+1:=⟨r-1,by omega⟩
   exact AM T hc (hD.fresh f) hl hw12.1 hw12.2 hb' hbG hM hMn hbM hpM hn' hnb rfl h0 h5 h11 h12 h13 (λh=>absurd h hg) (λ_ e' h4=>hF (by simp only [iq,if_neg hg]) e' h4)
theorem yc (T:aA t) (hc:aY t) {p} {v} {A} {O Q} {ws}
 (hD:cN H p A O) (hl:nn A.len) (hv:mU H v ws Q) (hall:∀ w ∈ ws,w.1<18446744073709551616/\w.2.1<1000000) (hnb:ws.length<1000000) (hfu:ws.length<fuel):
 ∃ H',(∀ (d) (k),aj (aN cp t fuel (d+2)) (.func 206 []) [.ptr p 0,v] H k=k (.bool (iq A.len [] ws)) H')/\af H H':=by
 have hw:=hD.wf
 rcases hv with ⟨rfl,rfl⟩|⟨b,c,s,rfl,hb,hbn,_⟩
 .refine ⟨H.new (.map []),λd k=>?_,af.new hw⟩
  obtain ⟨f,rfl⟩:∃ f,fuel=f+1:=⟨fuel-1,by omega⟩
  have n0:nn 0:=by unfold nn;omega
  have e1:=by omega
  rw [ax T.aaJ rfl rfl]
  simp only [go_sem,ZE,ZV,hw,ak,lO,n0,iq]
 .obtain ⟨G',f',hG'⟩:=St (c:=c) (s:=s) T hc hD hl hall hb hbn (YB _) rfl hnb ws [] [] (H.new (.map [])) rfl (af.new hw) (by rw [Heap.aM];omega) (by rw [Heap.aD hw,if_pos rfl];rfl)
  refine ⟨G',λd k=>?_,f'⟩
  have e1:ws.length<9223372036854775808:=by omega
  rw [ax T.aaJ rfl rfl]
  simp only [go_sem,ZV,hw,e1]
  refine hG' d _ fuel _ hfu ?_ ?_ ?_ ?_ ?_ _ (λhT e'=>?_) (λhF e' h4=>?_)
  all_goals first|rfl|rfl|simp_all
end
end Go.Ev
end
section
namespace Go.Ev
section
variable {cp:RC->ah} {t:Nat->Option cP} {fuel d:Nat} {H:Heap} {k:K} {args caps:List V}
theorem Jm {f g} (hf:f%2=1) (hg:g%2=0) (hF:f/2=g/2):aj (aN cp t fuel (d+1)) (.func f caps) args H k=aj (aN cp t fuel (d+1)) (.func g []) (caps ++ args) H k:=by
 show Nat.rec (jO args caps λargs=>JL t fuel (aN cp t fuel d) (Wf f 2) args H k) (λ_ _=>jO caps args λargs=>JL t fuel (aN cp t fuel d) (Wf f 2) args H k) (Yq f 2)=Nat.rec (motive:=λ_=>R) (jO (caps ++ args) [] λargs=>JL t fuel (aN cp t fuel d) (Wf g 2) args H k) (λ_ _=>jO [] (caps ++ args) λargs=>JL t fuel (aN cp t fuel d) (Wf g 2) args H k) (Yq g 2)
 have h1:Yq f 2=1:=hf
 have h2:Yq g 2=0:=hg
 have h3:Wf f 2=Wf g 2:=hF
 rw [h1,h2,h3]
 show jO caps args _=jO (caps ++ args) [] _
 rw [fA,fA,YR]
end
def AD.qT (A:AD):List Wr->AD × Nat
 | []=>(A,0)
 | w :: ws=>if (A.write w.1 w.2.2).2=0 then (A.write w.1 w.2.2).1.qT ws else A.write w.1 w.2.2
def AD.lq (A:AD) (ws:List Wr):AD × Nat:=if (A.qT ws).2=0 then (A.qT ws).1.flush else A.qT ws
def roomy (room:Nat):List (Nat × Tx)->List Wr->Prop
 | _,[]=>True
 | es,w :: ws=>((find es w.1).isSome=true\/es.length<room)/\roomy room (eS es w.1 w.2) ws
theorem MF (D) (a) (v):(eS D a v).length<=D.length+1:=by rw [lJ];grind
def vX (H:Heap) (O:Nat->Prop) (f:V) (p:Nat) (ws:List Wr):Prop:=
 ∃ B0 B1 B2 v,f = .func 334 [.ptr B0 0,.ptr B1 0,.ptr B2 0]/\H.get B0 = .cells [v]/\H.get B1 = .cells [.func 331 [.ptr p 0]]/\H.get B2 = .cells [.func 333 [.ptr p 0]]/\
  (B0<H.n/\¬ O B0)/\(B1<H.n/\¬ O B1)/\(B2<H.n/\¬ O B2)/\mU H v ws O
theorem vX.cG {H H':Heap} {O O':Nat->Prop} {f:V} {p:Nat} {ws:List Wr} (h:vX H O f p ws) (s:Step H O H' O'):vX H' O' f p ws:=by
 obtain ⟨B0,B1,B2,v,h1,h2,h3,h4,⟨a0,b0⟩,⟨a1,b1⟩,⟨a2,b2⟩,h5⟩:=h
 exact ⟨B0,B1,B2,v,h1,by rw [(s.same _ a0 b0).1];exact h2,by rw [(s.same _ a1 b1).1];exact h3,by rw [(s.same _ a2 b2).1];exact h4,⟨YD a0 s.n,(s.same _ a0 b0).2⟩,⟨YD a1 s.n,(s.same _ a1 b1).2⟩,⟨YD a2 s.n,(s.same _ a2 b2).2⟩,h5.cG s⟩
section
variable {cp:RC->ah} {t:Nat->Option cP} {fuel:Nat} {H:Heap}
theorem oI (T:aA t) {p:Nat} {v:V} {O:Nat->Prop} {ws:List Wr} (hw:H.wf) (hO:∀ b,O b->b<H.n) (hv:mU H v ws O):
 ∃ H' f,(∀ (d:Nat) (k:K),aj (aN cp t fuel (d+1)) (.func 198 []) [.ptr p 0,v] H k=k f H')/\af H H'/\vX H' O f p ws:=by
 have hone:v = .az\/∃ b o l c s,v = .slice b o l c s:=by
  rcases hv with ⟨rfl,_⟩|⟨b,c,s,rfl,_⟩
  .grind
  simp
 have e1:H.n+1<H.n+1+1+1:=by omega
 have e2:H.n+1+1<H.n+1+1+1:=by omega
 have e3:¬ H.n=H.n+1:=by omega
 have e4:¬ H.n=H.n+1+1:=by omega
 have e5:¬ H.n+1=H.n+1+1:=by omega
 have e6:=by omega
 have e7:¬ H.n+1=H.n:=by omega
 have f:af H (((((H.new (.cells [v])).new (.cells [.lV])).new (.cells [.lV])).put (H.n+1) (.cells [.func 331 [.ptr p 0]])).put (H.n+1+1) (.cells [.func 333 [.ptr p 0]])):=
  af.put (af.put (af.trans (af.trans (af.new hw) (af.new (by simp only [Heap.aX,hw]))) (af.new (by simp only [Heap.aX,hw]))) (by omega) (by simp only [Heap.aM];omega)) (by omega) (by simp only [Heap.aM,Heap.aR];omega)
 refine ⟨_,.func 334 [.ptr H.n 0,.ptr (H.n+1) 0,.ptr (H.n+1+1) 0],λd k=>?_,f,H.n,H.n+1,H.n+1+1,v,rfl,?_,?_,?_,⟨?_,λh=>?_⟩,⟨?_,λh=>?_⟩,⟨?_,λh=>?_⟩,hv.fresh f⟩
 .rw [ax T.k99 rfl rfl]
  rcases hone with rfl|⟨b,o,l,c,s,rfl⟩<;>simp only [go_sem,c99,hw,e1,e2,e5,e7]
 .simp only [Heap.aE,Heap.aD,Heap.bF,Heap.aX,Heap.aR,Heap.aM,hw,e1,e2,e3,e4,if_true,if_false]
 .simp only [Heap.aE,Heap.aD,Heap.bF,Heap.aX,Heap.aR,Heap.aM,hw,e1,e2,e5,if_true,if_false]
 .simp only [Heap.aE,Heap.aD,Heap.bF,Heap.aX,Heap.aR,Heap.aM,hw,e1,e2,if_true]
 .simp only [Heap.aR,Heap.aM];omega
 .grind
 .simp only [Heap.aR,Heap.aM];omega
 .grind
 .simp only [Heap.aR,Heap.aM];omega
 grind
set_option maxRecDepth 4000 in
theorem Of (T:aA t) (hc:aY t) {p b c s n B1 B2:Nat} {all:List Wr} (hn:n=all.length) (hnb:n<10000):
 ∀ (ws pre:List Wr) (G:Heap) (A:AD) (O:Nat->Prop),all=pre ++ ws->cN G p A O->A.off=false->A.us.length+ws.length<90000->A.es.length+ws.length<900000->(∀ w ∈ ws,w.1<A.len/\w.2.1=32)->roomy A.room A.es ws->
  G.get b = .cells (bC all)->b<G.n->¬ O b->G.get B1 = .cells [.func 331 [.ptr p 0]]->B1<G.n->¬ O B1->
 ∃ G' O',Step G O G' O'/\cN G' p (A.qT ws).1 O'/\∀ (d:Nat) (kx:Nat->KE) (r:Nat) (e:Env),ws.length<r->ae s001 e = .ptr B1 0->ae s002 e = .ptr B2 0->ae s007 e = .slice b 0 n c s->ae s010 e = .int 3 n->ae s011 e = .int 3 pre.length->
  ∀ x:R,((A.qT ws).2=0->∀ e',ae s002 e' = .ptr B2 0->kx 1 e' G'=x)->((A.qT ws).2≠0->∀ e',ae s003 e' = .int 3 (A.qT ws).2->kx 0 e' G'=x)->
  jQ qZ fuel (aN cp t fuel (d+3)) kx r e G=x:=by
 intro ws
 induction ws with
 | nil=>
  intro pre G A O hal hD ho hus hes hgood hroom hb hbn hbO hB1 hB1n hB1O
  refine ⟨G,O,Step.refl hD.wf,hD,λd kx r e hr h1 h2 h7 h10 h11 x hT hF=>?_⟩
  obtain ⟨r,rfl⟩:∃ q,r=q+1:=⟨r-1,by grind⟩
  have hi:pre.length=n:=by grind
  have e1:¬ n<n:=by omega
  have e2:nn n:=by unfold nn;omega
  rw [ak]
  rw [hi]at h11
  simp only [go_sem,qZ,h10,h11,e1,e2]
  exact hT rfl _ h2
 | cons w ws ih=>
  intro pre G A O hal hD ho hus hes hgood hroom hb hbn hbO hB1 hB1n hB1O
  have hw:=hD.wf
  obtain ⟨hw1,hw2⟩:=hgood w (YJ ..)
  simp only [YH]at hus hes
  have e8:G.n<G.n+1:=by omega
  obtain ⟨wa,wl,wx⟩:=w
  simp only at hw1 hw2
  subst hw2
  generalize hG1:(G.new (.cells [.int 3 0,.str 0 0])).put G.n (.cells [.int 3 wa,.str 32 wx])=G1
  have f1:af G G1:=by rw [<- hG1];exact af.put (af.new hw) (YB _) (by simp only [Heap.aM];omega)
  have hD1:=hD.fresh f1
  have g1n:G1.get G.n = .cells [.int 3 wa,.str 32 wx]:=by rw [<- hG1];simp only [Heap.aE,Heap.aD,Heap.aX,Heap.aM,hw,e8,if_true]
  have hB1':=(f1.same B1 hB1n).trans hB1
  obtain ⟨G2,O2,hcall,hD2,s2⟩:=Lt (T.jh hc) hD1 ho (by omega) (by omega) hw1 hroom.1
  have hcall':∀ {d} {k},aj (aN cp t fuel (d+3)) (.func 331 [.ptr p 0]) [.int 3 wa,.str 32 wx] G1 k=k (.int 3 (A.write wa wx).2) G2:=λ{d k}=>by
   exact hcall d k
  have s12:=f1.step.trans s2
  have hlt:pre.length<n:=by grind
  have e1:nn pre.length:=by unfold nn;omega
  have e2:nn n:=by unfold nn;omega
  have e3:pre.length<9223372036854775808:=by omega
  have e4:pre.length*2<=(bC all).length:=by rw [dh,<- hn];omega
  have hd:(bC all).drop (pre.length*2) = .int 3 wa :: .str 32 wx :: bC ws:=by rw [hal,qh];rfl
  have e5:=by omega
  have e9:(pre.length+1)%18446744073709551616=pre.length+1:=by omega
  by_cases he:(A.write wa wx).2=0
  .have hA:A.qT ((wa,32,wx):: ws)=(A.write wa wx).1.qT ws:=by simp only [AD.qT,if_pos he]
   have hf1:¬ A.aZ=1:=λh=>by simp only [AD.write,if_pos h]at he;omega
   have hw':(A.write wa wx).1={A with aZ:=A.aZ-1,us:=A.us ++ [(wa,(find A.es wa).getD (0,0),(find A.es wa).isSome)],es:=eS A.es wa (32,wx)}:=by simp only [AD.write,if_neg hf1]
   have hle:=MF A.es wa (32,wx)
   obtain ⟨G',O',s',hD',hG'⟩:=ih (pre ++ [(wa,32,wx)]) G2 _ O2 (by grind) hD2 (by grind) (by grind) (by grind) (by grind) (by rw [hw'];exact hroom.2)
    (by rw [(s12.same b hbn hbO).1];exact hb) (YD hbn s12.n) (s12.same b hbn hbO).2 (by rw [(s12.same _ hB1n hB1O).1];exact hB1) (YD hB1n s12.n) (s12.same _ hB1n hB1O).2
   rw [hA]
   refine ⟨G',O',s12.trans s',hD',λd kx r e hr h1 h2 h7 h10 h11 x hT hF=>?_⟩
   obtain ⟨r,rfl⟩:∃ q,r=q+1:=⟨r-1,by omega⟩
   rw [ak]
   simp only [go_sem,qZ,h1,h7,h10,h11,hlt,e1,e2,e3,e4,hd,e8,e9,hb,hw,hG1,g1n,hB1',hcall',he]
   refine hG' d kx r _ (by grind) ?_ ?_ ?_ ?_ ?_ x hT hF<;>simp only [go_sem,h1,h2,h7,h10]
  .have hA:A.qT ((wa,32,wx):: ws)=A.write wa wx:=by simp only [AD.qT,if_neg he]
   rw [hA]
   refine ⟨G2,O2,s12,hD2,λd kx r e hr h1 h2 h7 h10 h11 x hT hF=>?_⟩
   obtain ⟨r,rfl⟩:∃ q,r=q+1:=⟨r-1,by omega⟩
   rw [ak]
   simp only [go_sem,qZ,h1,h7,h10,h11,hlt,e1,e2,e3,e4,hd,e8,hb,hw,hG1,g1n,hB1',hcall',he]
   exact hF he _ rfl
theorem Xv {A:AD}:∀ {ws},A.off=false->(A.qT ws).2=0->(A.qT ws).1.off=false:=by
 intro ws
 induction ws generalizing A with
 | nil=>intro h _;exact h
 | cons w ws ih=>
  intro h h0
  simp only [AD.qT]at h0 ⊢
  split at h0
  .rename_i h1
   rw [if_pos h1]
   refine ih ?_ h0
   by_cases hf:A.aZ=1
   .simp [AD.write,if_pos hf]at h1
   .simp only [AD.write,if_neg hf];omega
  omega
theorem Od (T:aA t) (hc:aY t) {p} {A} {O} {f} {ws} (hD:cN H p A O) (hf:vX H O f p ws) (ho:A.off=false) (hus:A.us.length+ws.length<90000) (hes:A.es.length+ws.length<900000) (hgood:∀ w ∈ ws,w.1<A.len/\w.2.1=32) (hroom:roomy A.room A.es ws) (hnb:ws.length<10000) (hfu:ws.length<fuel):
 ∃ H' O',(∀ (d) (k),aj (aN cp t fuel (d+4)) f [] H k=k (.int 3 (A.lq ws).2) H')/\Step H O H' O'/\cN H' p (A.lq ws).1 O':=by
 obtain ⟨B0,B1,B2,v,rfl,h0,h1,h2,⟨a0,b0⟩,⟨a1,b1⟩,⟨a2,b2⟩,hv⟩:=hf
 have key:∃ G' O',Step H O G' O'/\cN G' p (A.qT ws).1 O'/\∀ (d) (x) (kx) (e),ae s001 e = .ptr B1 0->ae s002 e = .ptr B2 0->ae s007 e=v->ae s010 e = .int 3 ws.length->ae s011 e = .int 3 0->
  ((A.qT ws).2=0->∀ e',ae s002 e' = .ptr B2 0->kx 1 e' G'=x)->((A.qT ws).2≠0->∀ e',ae s003 e' = .int 3 (A.qT ws).2->kx 0 e' G'=x)->
  jQ qZ fuel (aN cp t fuel (d+3)) kx fuel e H=x:=by
  rcases hv with ⟨rfl,rfl⟩|⟨b,c,s,rfl,hb,hbn,hbO⟩
  .refine ⟨H,O,Step.refl hD.wf,hD,λd x kx e g1 g2 g7 g10 g11 hT hF=>?_⟩
   obtain ⟨f,rfl⟩:∃ f,fuel=f+1:=⟨fuel-1,by omega⟩
   have n0:nn 0:=by unfold nn;omega
   have e1:=by omega
   rw [ak]
   simp only [go_sem,ZE,qZ,g10,g11,n0]
   exact hT rfl _ (by simp only [go_sem,g2])
  .obtain ⟨G',O',s',hD',hG'⟩:=Of T hc rfl hnb ws [] H A O rfl hD ho hus hes hgood hroom hb hbn hbO h1 a1 b1
   exact ⟨G',O',s',hD',λd x kx e g1 g2 g7 g10 g11 hT hF=>hG' d kx fuel e hfu g1 g2 g7 g10 g11 x hT hF⟩
 obtain ⟨G',O',s',hD',hG'⟩:=key
 have e1:ws.length<9223372036854775808:=by omega
 have hB2':=(s'.same B2 a2 b2).1.trans h2
 by_cases he:(A.qT ws).2=0
 .obtain ⟨H2,O2,hcall,hD2,s2⟩:=Nx (T.jh hc) hD' (Xv ho he)
  have hcall':∀ {d} {k},aj (aN cp t fuel (d+3)) (.func 333 [.ptr p 0]) [] G' k=k (.int 3 (A.qT ws).1.flush.2) H2:=λ{d k}=>by
   exact hcall d k
  refine ⟨H2,O2,λd k=>?_,s'.trans s2,by simp only [AD.lq,if_pos he];omega⟩
  rw [ax T.aaO rfl rfl]
  simp only [AD.lq,if_pos he]
  rcases hv with ⟨rfl,rfl⟩|⟨b,c,s,rfl,_⟩
  .simp only [go_sem,ZE,UZ,h0]
   refine hG' d _ _ _ ?_ ?_ ?_ ?_ ?_ (λ_ e' g2=>?_) (λh=>absurd he h)
   all_goals first|(simp only [go_sem,YO];done)|simp only [go_sem,g2,hB2',hcall']
  .simp only [go_sem,ZE,UZ,h0,e1]
   refine hG' d _ _ _ ?_ ?_ ?_ ?_ ?_ (λ_ e' g2=>?_) (λh=>absurd he h)
   all_goals first|(simp only [go_sem];done)|simp only [go_sem,g2,hB2',hcall']
 .refine ⟨G',O',λd k=>?_,s',by simp only [AD.lq,if_neg he];omega⟩
  rw [ax T.aaO rfl rfl]
  simp only [AD.lq,if_neg he]
  rcases hv with ⟨rfl,rfl⟩|⟨b,c,s,rfl,_⟩
  .exact absurd rfl he
  .simp only [go_sem,ZE,UZ,h0,e1]
   refine hG' d _ _ _ ?_ ?_ ?_ ?_ ?_ (λh=>absurd h he) (λ_ e' g3=>?_)
   all_goals first|(simp only [go_sem];done)|simp only [go_sem,g3]
end
end Go.Ev
end
section
namespace Go.Ev
def AD.runs (A:AD):List (List Wr)->AD × Nat
 | []=>(A,0)
 | ws :: l=>if (A.lq ws).2=0 then (A.lq ws).1.runs l else A.lq ws
def laid (es:List (Nat × Tx)) (ws:List Wr):List (Nat × Tx):=ws.foldl (λes w=>eS es w.1 w.2) es
theorem jl (es) (ws us):laid es (ws ++ us)=laid (laid es ws) us:=by simp only [laid,List.foldl_append]
theorem nJ {room}:∀ {ws us} {es},roomy room es (ws ++ us)↔roomy room es ws/\roomy room (laid es ws) us
 | [],us,es=>by simp only [YK,roomy,true_and];rfl
 | w :: ws,us,es=>by
  simp only [YL,roomy,and_assoc]
  rw [nJ]
  rfl
theorem GD (ws) (es):(laid es ws).length<=es.length+ws.length:=by
 induction ws generalizing es with
 | nil=>exact YB _
 | cons w ws ih=>
  have h1:=ih (eS es w.1 w.2)
  have h2:=MF es w.1 w.2
  simp only [YH]
  have h3:laid es (w :: ws)=laid (eS es w.1 w.2) ws:=rfl
  rw [h3]
  omega
structure O7 (A B:AD) (es:List (Nat × Tx)):Prop where
 len:B.len=A.len
 room:B.room=A.room
 off:B.off=A.off
 es:B.es=es
theorem IJ:∀ {ws} {A},(∀ w ∈ ws,w.2.1=32)->(A.qT ws).2=0->O7 A (A.qT ws).1 (laid A.es ws)/\(A.qT ws).1.us.length=A.us.length+ws.length
 | [],A,_,_=>⟨⟨rfl,rfl,rfl,rfl⟩,rfl⟩
 | w :: ws,A,hl,h0=>by
  simp only [AD.qT]at h0 ⊢
  split at h0
  .rename_i h1
   rw [if_pos h1]
   have hf:¬ A.aZ=1:=λh=>by simp only [AD.write,if_pos h]at h1;omega
   have hw:(A.write w.1 w.2.2).1={A with aZ:=A.aZ-1,us:=A.us ++ [(w.1,(find A.es w.1).getD (0,0),(find A.es w.1).isSome)],es:=eS A.es w.1 (32,w.2.2)}:=by simp only [AD.write,if_neg hf]
   obtain ⟨⟨g1,g2,g3,g4⟩,g5⟩:=IJ (λv hv=>hl v (YI _ hv)) h0
   have h32:(32,w.2.2)=w.2:=by rw [<- hl w (YJ ..)]
   rw [hw,h32]at g1 g2 g3 g4 g5 ⊢
   refine ⟨⟨g1,g2,g3,g4⟩,?_⟩
   rw [g5]
   simp only [YC,YH,YO]
   omega
  omega
theorem AW {ws} {A} (hl:∀ w ∈ ws,w.2.1=32) (h0:(A.lq ws).2=0):O7 A (A.lq ws).1 (laid A.es ws)/\(A.lq ws).1.us=[]:=by
 unfold AD.lq at h0 ⊢
 by_cases h1:(A.qT ws).2=0
 .rw [if_pos h1]at h0 ⊢
  obtain ⟨⟨g1,g2,g3,g4⟩,g5⟩:=IJ hl h1
  by_cases hf:(A.qT ws).1.aZ=1
  .simp only [AD.flush,if_pos hf]at h0;omega
  .simp only [AD.flush,if_neg hf]
   exact ⟨⟨g1,g2,g3,g4⟩,trivial⟩
 simp_all
def Rt (fs:List (V × List Wr)):List V:=fs.map (·.1)
structure Dy (A:AD) (l:List (List Wr)):Prop where
 off:A.off=false
 us:∀ ws ∈ l,A.us.length+ws.length<90000
 es:A.es.length+l.flatten.length<900000
 RT:∀ ws ∈ l,∀ w ∈ ws,w.1<A.len/\w.2.1=32
 room:roomy A.room A.es l.flatten
theorem Dy.next {A:AD} {ws:List Wr} {l:List (List Wr)} (h:Dy A (ws :: l)) (h0:(A.lq ws).2=0):Dy (A.lq ws).1 l:=by
 obtain ⟨⟨g1,g2,g3,g4⟩,g5⟩:=AW (λw hw=>(h.RT ws (YJ ..) w hw).2) h0
 have hl:=GD ws A.es
 refine ⟨g3.trans h.off,λus hus=>?_,?_,λus hus w hw=>?_,?_⟩
 .rw [g5];have:=h.us us (YI _ hus);simp only [YO];omega
 .rw [g4];have:=h.es;simp only [WU,YC]at this;omega
 .rw [g1];exact h.RT us (YI _ hus) w hw
 .rw [g2,g4]
  have:=h.room
  simp only [WU]at this
  exact (nJ.1 this).2
section
variable {cp:RC->ah} {t:Nat->Option cP} {fuel:Nat} {H:Heap}
set_option maxRecDepth 4000 in
theorem Tn (T:aA t) (hc:aY t) {p b c s n} {all} (hn:n=all.length) (hnb:n<10000):
 ∀ (fs pre) (G) (A) (O),all=pre ++ fs->cN G p A O->Dy A (fs.map (·.2))->(∀ f ∈ fs,vX G O f.1 p f.2/\f.2.length<10000/\f.2.length<fuel)->
  G.get b = .cells (Rt all)->b<G.n->¬ O b->
 ∃ G' O',Step G O G' O'/\cN G' p (A.runs (fs.map (·.2))).1 O'/\∀ (d) (kx) (r) (e),fs.length<r->ae s006 e = .slice b 0 n c s->ae s007 e = .int 3 n->ae s010 e = .int 3 pre.length->
  ∀ x:R,((A.runs (fs.map (·.2))).2=0->∀ e',kx 1 e' G'=x)->((A.runs (fs.map (·.2))).2≠0->∀ e',ae s002 e' = .int 3 (A.runs (fs.map (·.2))).2->kx 0 e' G'=x)->
  jQ EA fuel (aN cp t fuel (d+4)) kx r e G=x:=by
 intro fs
 induction fs with
 | nil=>
  intro pre G A O hal hD hR hfs hb hbn hbO
  refine ⟨G,O,Step.refl hD.wf,hD,λd kx r e hr h6 h7 h10 x hT hF=>?_⟩
  obtain ⟨r,rfl⟩:∃ q,r=q+1:=⟨r-1,by omega⟩
  have hi:pre.length=n:=by rw [hn,hal,YR]
  have e1:¬ n<n:=by omega
  have e2:nn n:=by unfold nn;omega
  rw [ak]
  rw [hi]at h10
  simp only [go_sem,EA,h7,h10,e1,e2]
  exact hT rfl _
 | cons f fs ih=>
  intro pre G A O hal hD hR hfs hb hbn hbO
  obtain ⟨f,ws⟩:=f
  obtain ⟨hf1,hf2,hf3⟩:=hfs (f,ws) (YJ ..)
  simp only at hf1 hf2 hf3
  simp only [YP]at hR ⊢
  have hrm:=hR.room
  have hes:=hR.es
  simp only [WU,YC]at hes
  obtain ⟨G2,O2,hcall,s2,hD2⟩:=Od (cp:=cp) T hc hD hf1 hR.off (hR.us ws (YJ ..)) (by omega) (hR.RT ws (YJ ..)) (nJ.1 hrm).1 hf2 hf3
  have hlt:pre.length<n:=by rw [hn,hal];simp only [YC,YH];omega
  have e1:nn pre.length:=by unfold nn;omega
  have e2:nn n:=by unfold nn;omega
  have e3:pre.length<9223372036854775808:=by omega
  have hget:(Rt all)[pre.length]? = some f:=by rw [hal];simp [Rt]
  have hnth:∀ {id} {k},nth id (Rt all) pre.length k=k f:=jT hget
  have e9:(pre.length+1)%18446744073709551616=pre.length+1:=by omega
  by_cases he:(A.lq ws).2=0
  .have hA:A.runs (ws :: fs.map (·.2))=(A.lq ws).1.runs (fs.map (·.2)):=by simp only [AD.runs,if_pos he]
   obtain ⟨G',O',s',hD',hG'⟩:=ih (pre ++ [(f,ws)]) G2 _ O2 (by rw [hal];simp) hD2 (hR.next he) (λg hg=>⟨(hfs g (YI _ hg)).1.cG s2,(hfs g (YI _ hg)).2⟩) ((s2.same b hbn hbO).1.trans hb) (YD hbn s2.n) (s2.same b hbn hbO).2
   rw [hA]
   refine ⟨G',O',s2.trans s',hD',λd kx r e hr h6 h7 h10 x hT hF=>?_⟩
   obtain ⟨r,rfl⟩:∃ q,r=q+1:=⟨r-1,by omega⟩
   rw [ak]
   simp only [go_sem,EA,h6,h7,h10,hlt,e1,e2,e3,hb,hnth,hcall,he,e9]
   refine hG' d kx r _ (by simp only [YH]at hr;omega) ?_ ?_ ?_ x hT hF<;>simp only [go_sem,h6,h7]
  .have hA:A.runs (ws :: fs.map (·.2))=A.lq ws:=by simp only [AD.runs,if_neg he]
   rw [hA]
   refine ⟨G2,O2,s2,hD2,λd kx r e hr h6 h7 h10 x hT hF=>?_⟩
   obtain ⟨r,rfl⟩:∃ q,r=q+1:=⟨r-1,by omega⟩
   rw [ak]
   simp only [go_sem,EA,h6,h7,h10,hlt,e1,e2,e3,hb,hnth,hcall,he]
   exact hF he _ rfl
theorem yD (T:aA t) (hc:aY t) {p b c s} {A} {O} {fs} (hD:cN H p A O) (hR:Dy A (fs.map (·.2))) (hfs:∀ f ∈ fs,vX H O f.1 p f.2/\f.2.length<10000/\f.2.length<fuel) (hb:H.get b = .cells (Rt fs)) (hbn:b<H.n) (hbO:¬ O b) (hnb:fs.length<10000) (hfu:fs.length<fuel):
 ∃ H' O',(∀ (d) (k),aj (aN cp t fuel (d+5)) (.func 196 []) [.slice b 0 fs.length c s] H k=k (.int 3 (A.runs (fs.map (·.2))).2) H')/\Step H O H' O'/\cN H' p (A.runs (fs.map (·.2))).1 O':=by
 obtain ⟨G',O',s',hD',hG'⟩:=Tn (c:=c) (s:=s) T hc rfl hnb fs [] H A O rfl hD hR hfs hb hbn hbO
 refine ⟨G',O',λd k=>?_,s',hD'⟩
 have e1:fs.length<9223372036854775808:=by omega
 rw [ax T.k98 rfl rfl]
 simp only [go_sem,c98,e1]
 refine hG' d _ fuel _ hfu ?_ ?_ ?_ _ (λh e'=>?_) (λh e' h2=>?_)
 all_goals first|rfl|simp_all|rfl
end
end Go.Ev
end
section
namespace Go.Ev
theorem iL:∀ (a b),enc (a ++ b)=enc a+enc b*256 ^ a.length
 | [],b=>by simp [enc]
 | x :: a,b=>by
  simp only [YL,enc,iL a b,YH,QX]
  have h:256*(enc b*256 ^ a.length)=enc b*(256 ^ a.length*256):=by rw [Nat.mul_left_comm,Wo 256]
  omega
theorem Bg (a b):V.str (a.length+b.length) (enc a+enc b*256 ^ a.length)=tv (a ++ b):=by
 simp only [tv,YC,iL]
def be:Nat->Nat->List UInt8->List UInt8
 | 0,_,s=>s
 | m+1,n,s=>if n=0 then s else be m (n / 256) (UInt8.ofNat (n % 256):: s)
def bE (n:Nat):List UInt8:=UInt8.ofNat (be 8 n []).length :: be 8 n []
theorem qc:∀ (m n) (s),(be m n s).length<=m+s.length
 | 0,n,s=>by simp [be]
 | m+1,n,s=>by
  simp only [be]
  split
  .omega
  .have:=qc m (n/256) (UInt8.ofNat (n%256):: s)
   simp only [YH]at this
   omega
theorem bI (n):(bE n).length<=9:=by
 have:=qc 8 n []
 simp only [bE,YH,YO]at *
 omega
theorem toNat_ofNat {n:Nat} (h:n<256):(UInt8.ofNat n).toNat=n:=by simp_all
theorem nU {a b} (ha:a<18446744073709551616) (hb:b<18446744073709551616):(dA (.gt 0 18446744073709551616) a b=true)=(b<a):=by
 rw [Q3,WL,WL,WE ha,WE hb]
theorem AL {a b} (ha:a<18446744073709551616) (hb:b<18446744073709551616):(dA (.lt 0 18446744073709551616) a b=true)=(a<b):=by
 rw [LZ,WL,WL,WE ha,WE hb]
theorem Td {s} {v i}:KG (enc s*256 ^ (i+1)) i 1 v=(v+256*enc s)*256 ^ i:=by
 unfold KG
 have h1:enc s*256 ^ (i+1)%256 ^ i=0:=by rw [QX,Wo (256 ^ i),<- YM0];simp
 have h2:(enc s*256 ^ (i+1)) >>> (8*(i+1))=enc s:=by
  rw [WG,QS,show (2 ^ 8:Nat)=256 by rfl,YM1 _ (Nat.pow_pos (by omega))]
 rw [h1,h2,Nat.pow_one,Nat.zero_add,Wo (enc s)]
section
variable {cp:RC->ah} {t:Nat->Option cP} {fuel:Nat} {H:Heap}
theorem Hr (T:aA t) {B}:
 ∀ (m n) (s) (G),m+s.length=8->n<256 ^ m->af H G->H.n<=B->B<G.n->G.get B = .bytes 8 (enc s*256 ^ m)->
 ∃ G',af H G'/\B<G'.n/\G'.get B = .bytes 8 (enc (be m n s)*256 ^ (8-(be m n s).length))/\∀ (d) (kx) (r) (e) (v0),m<r->ae s000 e=v0->ae s001 e = .int 7 n->ae s005 e = .ptr B 0->ae s006 e = .int 3 m->
  ∀ x:R,(∀ e',ae s000 e'=v0->ae s005 e' = .ptr B 0->ae s006 e' = .int 3 (8-(be m n s).length)->kx 1 e' G'=x)->
  jQ wP fuel (aN cp t fuel d) kx r e G=x:=by
 intro m
 induction m with
 | zero=>
  intro n s G hm hn f hB hBn hb
  have hn0:=by simp at hn;omega
  subst hn0
  have hs:8-s.length=0:=by omega
  simp only [be]
  refine ⟨G,f,hBn,by rw [hs];omega,λd kx r e v0 hr h0 h1 h5 h6 x hT=>?_⟩
  obtain ⟨r,rfl⟩:∃ q,r=q+1:=⟨r-1,by omega⟩
  have e1:(dA (.gt 0 18446744073709551616) 0 0=true)=False:=by rw [nU (by omega) (by omega)];simp
  rw [ak]
  simp only [go_sem,wP,h1,e1]
  exact hT _ h0 h5 (by simp only [go_sem,h6,hs])
 | succ m ih=>
  intro n s G hm hn f hB hBn hb
  have hn64:n<18446744073709551616:=by
   have:256 ^ (m+1)<=256 ^ 8:=Nat.pow_le_pow_right (by omega) (by omega)
   omega
  have e1:(dA (.gt 0 18446744073709551616) n 0=true)=(0<n):=nU hn64 (by omega)
  by_cases h0:n=0
  .subst h0
   simp only [be,if_true]
   have hs:8-s.length=m+1:=by omega
   refine ⟨G,f,hBn,by rw [hs];omega,λd kx r e v0 hr h0 h1 h5 h6 x hT=>?_⟩
   obtain ⟨r,rfl⟩:∃ q,r=q+1:=⟨r-1,by omega⟩
   have e2:=by omega
   rw [ak]
   simp only [go_sem,ZE,wP,h1,e1]
   exact hT _ h0 h5 (by simp only [go_sem,h6,hs])
  .have hd:n/256<256 ^ m:=by omega
   have hw:=f.wf
   have hx:KG (enc s*256 ^ (m+1)) m 1 (n%256)=enc (UInt8.ofNat (n%256):: s)*256 ^ m:=by
    rw [Td]
    simp only [enc,toNat_ofNat (show n%256<256 by omega)]
   obtain ⟨G',f',hB',hb',hG'⟩:=ih (n/256) (UInt8.ofNat (n%256):: s) (G.put B (.bytes 8 (enc (UInt8.ofNat (n%256):: s)*256 ^ m))) (by simp only [YH];omega) hd (af.put f hB hBn) hB (by rw [Heap.aR];omega) (by rw [Heap.aE hw hBn,if_pos rfl])
   simp only [be,if_neg h0]
   refine ⟨G',f',hB',hb',λd kx r e v0 hr h0' h1 h5 h6 x hT=>?_⟩
   obtain ⟨r,rfl⟩:∃ q,r=q+1:=⟨r-1,by omega⟩
   have e2:0<n:=by omega
   have e3:(m+1+18446744073709551615)%18446744073709551616=m:=by omega
   have e4:m<8:=by omega
   have e5:m<9223372036854775808:=by omega
   have e6:m+1<=8:=by omega
   have e7:n >>> 8=n/256:=by omega
   rw [ak]
   simp only [go_sem,wP,h1,h5,h6,e1,e2,e3,e4,e5,e6,e7,hb,hx,hw,hBn,hn64]
   refine hG' d kx r _ v0 (by omega) ?_ ?_ ?_ ?_ x hT<;>simp only [go_sem,h0',h5]
theorem yv (T:aA t) {d} {k} {l x b o n c s len y} (hb:H.get b = .bytes len y) (hl:o+n<=len) (hs:l+n<9223372036854775808):
 aj (aN cp t fuel (d+1)) (.func 424 []) [.str l x,.slice b o n c s] H k=k (.str (l+n) (x+(y >>> (8*o))%256 ^ n*256 ^ l)) H:=by
 rw [ax T.aey rfl rfl]
 simp only [go_sem,acM,hb,hl,hs]
theorem eT (T:aA t) {a} {n} (hw:H.wf) (ha:a.length<4000000000000000000) (hn:n<18446744073709551616) (hfu:8<fuel):
 ∃ H',(∀ (d) (k),aj (aN cp t fuel (d+2)) (.func 336 []) [tv a,.int 7 n] H k=k (tv (a ++ bE n)) H')/\af H H':=by
 obtain ⟨G',f',hB',hb',hG'⟩:=Hr T 8 n [] (H.new (.bytes 8 0)) rfl (by omega) (af.new hw) (YB _) (by rw [Heap.aM];omega) (by rw [Heap.aD hw,if_pos rfl];simp [enc])
 have hle:=qc 8 n []
 simp only [YO,WL]at hle
 have hpn:bE n=UInt8.ofNat (be 8 n []).length :: be 8 n []:=rfl
 generalize be 8 n []=s at hb' hG' hle hpn
 have hw':=f'.wf
 have f2:af H (G'.new (.bytes 1 s.length)):=f'.trans (af.new hw')
 refine ⟨_,λd k=>?_,f2⟩
 have e1:(8+(18446744073709551616-(8-s.length)))%18446744073709551616=s.length:=by omega
 have e2:s.length%256=s.length:=by omega
 have p1:∀ {k},aj (aN cp t fuel (d+1)) (.func 424 []) [.str a.length (enc a),.slice G'.n 0 1 2 0] (G'.new (.bytes 1 s.length)) k=k (.str (a.length+1) (enc a+s.length*256 ^ a.length)) (G'.new (.bytes 1 s.length)):=λ{k}=>by
  rw [yv T (by rw [Heap.aD hw',if_pos rfl]) (by omega) (by omega)]
  rw [Nat.mul_zero,Nat.shiftRight_zero,Nat.pow_one,e2]
 have hB2:(G'.new (.bytes 1 s.length)).get H.n = .bytes 8 (enc s*256 ^ (8-s.length)):=by rw [Heap.aD hw',if_neg (by omega)];omega
 have e3:8-(8-s.length)=s.length:=by omega
 have e4:(enc s*256 ^ (8-s.length)) >>> (8*(8-s.length))%256 ^ s.length=enc s:=by
  rw [WG,QS,show (2 ^ 8:Nat)=256 by rfl,YM1 _ (Nat.pow_pos (by omega)),WE (jA s)]
 have p2:∀ {k} {c},aj (aN cp t fuel (d+1)) (.func 424 []) [.str (a.length+1) (enc a+s.length*256 ^ a.length),.slice H.n (8-s.length) s.length c 0] (G'.new (.bytes 1 s.length)) k=k (tv (a ++ bE n)) (G'.new (.bytes 1 s.length)):=λ{k c}=>by
  rw [yv T hB2 (by omega) (by omega),e4]
  congr 1
  rw [hpn]
  simp only [tv,YC,YH,V.str.injEq,iL,enc,toNat_ofNat (show s.length<256 by omega)]
  refine ⟨by omega,?_⟩
  rw [QX,Nat.add_mul,Nat.add_assoc,Wo 256 (enc s),YM0,Wo 256]
 have p3:∀ {k},aj (aN cp t fuel (d+1)) (.func 424 []) [.str (a.length+1) (enc a+s.length*256 ^ a.length),.slice H.n 0 0 1 0] (G'.new (.bytes 1 s.length)) k=k (.str (a.length+1+0) (enc a+s.length*256 ^ a.length+enc s*256 ^ (8-s.length) >>> (8*0)%256 ^ 0*256 ^ (a.length+1))) (G'.new (.bytes 1 s.length)):=λ{k}=>yv T hB2 (by omega) (by omega)
 have e5:8-s.length<=8:=by omega
 have e6:8-s.length<9223372036854775808:=by omega
 rw [ax T.ad9 rfl rfl]
 rw [show tv a = .str a.length (enc a) from rfl]
 simp only [go_sem,acy,hw]
 refine hG' (d+1) _ fuel _ (.str a.length (enc a)) hfu ?_ ?_ ?_ ?_ _ (λe' g0 g5 g6=>?_)
 .rfl
 .rfl
 .rfl
 .rfl
 .by_cases hz:s.length=0
  .have hs0:=List.eq_nil_of_length_eq_zero hz
   subst hs0
   have hr:tv (a ++ bE n) = .str (a.length+1) (enc a):=by
    rw [hpn]
    simp only [tv,YC,YH,YO,V.str.injEq,iL,enc]
    simp
   have hz0:∀ q,0%256 ^ q=0:=λq=>Nat.zero_mod _
   simp only [YO,Nat.sub_zero,Nat.zero_mul,WL,enc,hz0]at p1 p3 g6
   simp only [go_sem,ZE,g0,g5,g6,hw',YO,p1,p3,hr]
  .have e7:¬ 8=8-s.length:=by omega
   simp only [go_sem,g0,g5,g6,hw',e1,e2,e3,e5,e6,e7,p1,p2]
end
end Go.Ev
end

