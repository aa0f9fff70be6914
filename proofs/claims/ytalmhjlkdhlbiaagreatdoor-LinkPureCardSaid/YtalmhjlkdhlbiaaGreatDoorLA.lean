/- LA: a part of the evaluator,of its logic,or of the laws' walk in it. -/
import Derived.Test.YtalmhjlkdhlbiaaGreatDoorLg
import Derived.Test.YtalmhjlkdhlbiaaGreatDoorCode
open Nat renaming le_refl → YA,lt_of_lt_of_le → YC,le_trans → Ym,mod → Yr,shiftRight_eq_div_pow → Yy,mod_eq_of_lt → Yz,add_zero → WI,div → WX,mul_comm → Wl,pow_mul → QE,pow_succ → QM,mul_assoc → YL1,mul_div_cancel → YL3
open List renaming getElem?_eq_getElem → YB,length_append → YD,length_cons → YF,mem_cons_of_mem → YH,mem_cons_self → YI,length_nil → YM,nil_append → YN,cons_append → YP,append_nil → YW,map_cons → Yd,flatten_cons → WO,flatMap_cons → WS,flatMap_append → Wz,find?_cons → Qz
open Or renaming inr → YE,inl → YG
open Option renaming getD_some → Yn,map_some → QA,getD_none → Qe,isSome_none → Qh,map_none → Qi,isSome_some → YA1
set_option linter.unusedVariables false
set_option linter.unusedSimpArgs false
set_option linter.unusedSectionVars false
set_option maxHeartbeats 8000000
open Nat renaming reduceAdd→ZA,reduceSub→ZB,reduceMul→ZC,reduceEqDiff→ZD,reduceLT→ZE,reduceDiv→ZF,reduceMod→ZG,reduceLeDiff→ZH
section
namespace Go.Ev
structure DR where
 m:Nat
 u:V
 len:Nat
 room:Nat
 bh:Nat
 off:Bool
def DR.cQ (D:DR):ee:=.cells [.map D.m,D.u,.int 3 D.len,.int 3 D.room,.int 3 D.bh,.bool D.off]
section
variable {cp:RC->aq} {t:Nat->Option cW} {fuel d:Nat} {H:Heap} {k:K}
structure TDisk (t:Nat->Option cW):Prop where
 off:t 16=some (.code [s000] [] c16)
 state:t 38=some (.code [s000] [.tmp s002] c38)
 VQ:t 164=some (.code [s000] [.tmp s002] Mg)
 there:t 127=some (.code [s000,s001] [.tmp s004] RM)
 write:t 134=some (.code [s000,s001,s002] [.tmp s006] Cf)
variable (T:TDisk t)
include T
theorem OM {p} {D:DR} (hw:H.wf) (hp:p<H.n) (hg:H.get p=D.cQ):
 aj (aQ cp t fuel (d+1)) (.func 32 []) [.ptr p 0] H k=k (.cE []) (H.put p {D with bh:=0,off:=true }.cQ):=by
 rw [aB T.off rfl rfl]
 simp only [go_sem,c16,DR.cQ,hg,hw,hp]
theorem ew {p} {D:DR} (hw:H.wf) (hp:p<H.n) (hg:H.get p=D.cQ):
 aj (aQ cp t fuel (d+1)) (.func 76 []) [.ptr p 0] H k=k (.int 3 (if D.off=true then 6 else 0)) H:=by
 rw [aB T.state rfl rfl]
 cases ho:D.off<;>simp only [go_sem,c38,DR.cQ,hg,ho]
theorem sK {p} {D:DR} (hw:H.wf) (hp:p<H.n) (hg:H.get p=D.cQ) (ho:D.off=false) (hf:D.bh≠1) (hfb:nn D.bh):
 aj (aQ cp t fuel (d+2)) (.func 328 []) [.ptr p 0] H k=k (.int 3 0) (H.put p {D with bh:=D.bh-1 }.cQ):=by
 have h5:nn 0:=by unfold nn;omega
 have hs:∀ {k},aj (aQ cp t fuel (d+1)) (.func 76 []) [.ptr p 0] (H.put p {D with bh:=D.bh-1 }.cQ) k=k (.int 3 0) (H.put p {D with bh:=D.bh-1 }.cQ):=λ{k}=>by
  rw [ew T (by rw [Heap.bI];omega) (by rw [Heap.aT];omega) (by rw [Heap.aF hw hp,if_pos rfl])]
  grind
 simp only [DR.cQ,ho]at hs ⊢
 rw [aB T.VQ rfl rfl]
 by_cases h0:D.bh=0
 .have h6:sm true 9223372036854775808 18446744073709551616 18446744073709551615 0=0:=by decide
  have h7:¬ (18446744073709551615=0):=by omega
  simp only [h0]at hs
  simp only [go_sem,Mg,DR.cQ,hg,hw,hp,ho,h0,h6,h7,hs]
 .have h1:(D.bh+18446744073709551615)%18446744073709551616=D.bh-1:=by unfold nn at hfb;omega
  have h2:¬ D.bh-1=0:=by omega
  have h3:nn (D.bh-1):=by unfold nn at *;omega
  have h4:max (D.bh-1) 0=D.bh-1:=by omega
  simp only [go_sem,Mg,DR.cQ,hg,hw,hp,ho,h1,h2,h3,h4,h5,hs]
theorem iF {p a} {D:DR} (hw:H.wf) (hp:p<H.n) (hg:H.get p=D.cQ) (hl:nn D.len) (ha:a<18446744073709551616):
 aj (aQ cp t fuel (d+1)) (.func 254 []) [.ptr p 0,.int 3 a] H k=k (.bool (decide (a<D.len))) H:=by
 have h5:nn 0:=by unfold nn;simp
 rw [aB T.there rfl rfl]
 by_cases h:nn a
 .have h8:=Nat.zero_le a
  by_cases h9:a<D.len<;>simp only [go_sem,RM,DR.cQ,hg,h,h5,h8,h9,hl,decide_true,decide_false]
 .have h8:(dN (.ge 9223372036854775808 18446744073709551616) a 0=true)=False:=by
   rw [CA]
   unfold nn at h
   grind
  have h9:¬ a<D.len:=by unfold nn at h hl;omega
  simp only [go_sem,RM,h8,h9,decide_false]
def sv (p:Nat × Nat):V:=.str p.1 p.2
def iu (D:List (Nat × (Nat × Nat))):List (Nat × V):=D.map λp=>(p.1,sv p.2)
def find (D:List (Nat × (Nat × Nat))) (a:Nat):Option (Nat × Nat):=(D.find? λp=>p.1 == a).map (·.2)
omit T in
theorem lW:∀ (D) (a),SN (iu D) a=(find D a).map sv
 | [],a=>rfl
 | p :: D,a=>by
  have ih:=lW D a
  unfold SN find iu at *
  grind
set_option maxRecDepth 4000 in
theorem Ik {p a x:Nat} {D:DR} {es:List (Nat × (Nat × Nat))} (hw:H.wf) (hp:p<H.n) (hg:H.get p=D.cQ) (hm:H.get D.m = .map (eI (iu es))) (rH:D.m<H.n) (AU:D.m≠p) (ho:D.off=false) (hf:D.bh≠1) (hfb:nn D.bh) (hl:nn D.len) (hr:nn D.room) (he:es.length<9223372036854775808)
 (ha:a<D.len) (hroom:(find es a).isSome=true\/es.length<D.room) (hu:D.u = .aw):
 aj (aQ cp t fuel (d+3)) (.func 268 []) [.ptr p 0,.int 3 a,.str 32 x] H k=k (.int 3 0)
  (((((H.put p {D with bh:=D.bh-1 }.cQ).new (.cells [.int 3 a,sv ((find es a).getD (0,0)),.bool (find es a).isSome])).new (.cells [.int 3 a,sv ((find es a).getD (0,0)),.bool (find es a).isSome])).put p {D with bh:=D.bh-1,u:=.slice (H.n+1) 0 1 0 3 }.cQ).put D.m (.map (eI (BW (iu es) a (.str 32 x))))):=by
 have hs:∀ {k},aj (aQ cp t fuel (d+2)) (.func 76 []) [.ptr p 0] H k=k (.int 3 0) H:=λ{k}=>by
  rw [ew T hw hp hg,ho]
  rfl
 have ht:∀ {k},aj (aQ cp t fuel (d+2)) (.func 254 []) [.ptr p 0,.int 3 a] H k=k (.bool true) H:=λ{k}=>by
  rw [iF T hw hp hg hl (by unfold nn at hl;omega),decide_eq_true ha]
 have hb:∀ {k},aj (aQ cp t fuel (d+2)) (.func 328 []) [.ptr p 0] H k=k (.int 3 0) (H.put p {D with bh:=D.bh-1 }.cQ):=λ{k}=>sK T hw hp hg ho hf hfb
 have n1:¬ p=H.n:=by omega
 have n2:¬ p=H.n+1:=by omega
 have n3:¬ D.m=H.n:=by omega
 have n4:¬ D.m=H.n+1:=by omega
 have n5:p<H.n+1+1:=by omega
 have n6:D.m<H.n+1+1:=by omega
 have n7:=by omega
 rw [aB T.write rfl rfl]
 have hlk:=lW es a
 have hel:(eI (iu es)).length=es.length:=by simp [eI,iu]
 have hnn:nn es.length:=by unfold nn;omega
 cases hfi:find es a with
 | some q=>
  rw [hfi]at hlk
  simp only [QA,sv]at hlk
  simp only [go_sem,↓dG,ZE,Cf,hs,ht,hb,DR.cQ,hg,hm,hw,hp,AU,ho,hu,hlk,n1,n2,n3,n4,n5,n6,Yn,YA1,sv]
 | none=>
  rw [hfi]at hlk
  simp only [Qi]at hlk
  have hrm:¬ D.room<=es.length:=by
   grind
  simp only [go_sem,↓dG,ZE,Cf,hs,ht,hb,DR.cQ,hg,hm,hw,hp,AU,ho,hu,hlk,hel,hnn,hr,he,hrm,n1,n2,n3,n4,n5,n6,Qe,Qh,sv]
set_option maxRecDepth 4000 in
theorem ET {p a x:Nat} {D:DR} {es:List (Nat × (Nat × Nat))} (hw:H.wf) (hp:p<H.n) (hg:H.get p=D.cQ) (hm:H.get D.m = .map (eI (iu es))) (rH:D.m<H.n) (AU:D.m≠p) (ho:D.off=false) (hf:D.bh≠1) (hfb:nn D.bh) (hl:nn D.len) (hr:nn D.room) (he:es.length<9223372036854775808)
 (ha:a<D.len) (hroom:(find es a).isSome=true\/es.length<D.room) {ub n:Nat} {us:List V} (hu:D.u = .slice ub 0 n 0 3) (hus:us.length=n*3) (hn0:0<n) (hnb:n<1073741000) (hub:H.get ub = .cells us) (hubn:ub<H.n) (hup:ub≠p) (hum:ub≠D.m):
 aj (aQ cp t fuel (d+3)) (.func 268 []) [.ptr p 0,.int 3 a,.str 32 x] H k=k (.int 3 0)
  ((((((H.put p {D with bh:=D.bh-1 }.cQ).new (.cells [.int 3 a,sv ((find es a).getD (0,0)),.bool (find es a).isSome])).put ub .dead).new (.cells (us ++ [.int 3 a,sv ((find es a).getD (0,0)),.bool (find es a).isSome]))).put p {D with bh:=D.bh-1,u:=.slice (H.n+1) 0 (n+1) 0 3 }.cQ).put D.m (.map (eI (BW (iu es) a (.str 32 x))))):=by
 have hs:∀ {k},aj (aQ cp t fuel (d+2)) (.func 76 []) [.ptr p 0] H k=k (.int 3 0) H:=λ{k}=>by
  rw [ew T hw hp hg,ho]
  rfl
 have ht:∀ {k},aj (aQ cp t fuel (d+2)) (.func 254 []) [.ptr p 0,.int 3 a] H k=k (.bool true) H:=λ{k}=>by
  rw [iF T hw hp hg hl (by unfold nn at hl;omega),decide_eq_true ha]
 have hb:∀ {k},aj (aQ cp t fuel (d+2)) (.func 328 []) [.ptr p 0] H k=k (.int 3 0) (H.put p {D with bh:=D.bh-1 }.cQ):=λ{k}=>sK T hw hp hg ho hf hfb
 have n1:¬ p=H.n:=by omega
 have n2:¬ p=H.n+1:=by omega
 have n3:¬ D.m=H.n:=by omega
 have n4:¬ D.m=H.n+1:=by omega
 have n5:p<H.n+1+1:=by omega
 have n6:D.m<H.n+1+1:=by omega
 have n7:=by omega
 have n8:¬ ub=H.n:=by omega
 have n9:=by omega
 have n10:ub<H.n+1:=by omega
 have n11:n+1<=1073741824:=by omega
 have n12:¬ p=ub:=λe=>hup e.symm
 have n13:¬ D.m=ub:=λe=>hum e.symm
 rw [aB T.write rfl rfl]
 have hlk:=lW es a
 have hel:(eI (iu es)).length=es.length:=by simp [eI,iu]
 have hnn:nn es.length:=by unfold nn;omega
 cases hfi:find es a with
 | some q=>
  rw [hfi]at hlk
  simp only [QA,sv]at hlk
  simp only [go_sem,↓dG,ZE,Cf,hs,ht,hb,DR.cQ,hg,hm,hw,hp,AU,ho,hu,hlk,n1,n2,n3,n4,n5,n6,n8,n10,n11,n12,n13,hus,hub,hup,Yn,YA1,sv]
 | none=>
  rw [hfi]at hlk
  simp only [Qi]at hlk
  have hrm:¬ D.room<=es.length:=by
   grind
  simp only [go_sem,↓dG,ZE,Cf,hs,ht,hb,DR.cQ,hg,hm,hw,hp,AU,ho,hu,hlk,hel,hnn,hr,he,hrm,n1,n2,n3,n4,n5,n6,n8,n10,n11,n12,n13,hus,hub,hup,Qe,Qh,sv]
end
structure vH (H:Heap) (p:Nat) (D:DR) (es:List (Nat × (Nat × Nat))) (us:List V):Prop where
 wf:H.wf
 hp:p<H.n
 hg:H.get p=D.cQ
 hm:H.get D.m = .map (eI (iu es))
 rH:D.m<H.n
 AU:D.m≠p
 PW:(D.u = .aw/\us=[])\/∃ ub n,D.u = .slice ub 0 n 0 3/\us.length=n*3/\0<n/\H.get ub = .cells us/\ub<H.n/\ub≠p/\ub≠D.m
 hl:nn D.len
 hr:nn D.room
 hf:nn D.bh
 he:es.length<9223372036854775808
theorem Heap.fj {H:Heap} {lo b:Nat} {x:ee} (h1:lo<=H.bC) (h2:lo<=b):lo<=(H.put b x).bC:=by
 by_cases h:H.wf/\b<H.n
 .rw [Heap.TY h.1 h.2]
  split<;>assumption
 .have e:H.put b x=H:=if_neg h
  rw [e]
  exact h1
theorem Heap.qG {H:Heap} {lo:Nat} {x:ee} (h1:lo<=H.bC):lo<=(H.new x).bC:=h1
def DR.owns (D:DR) (p b:Nat):Prop:=b=p\/b=D.m\/∃ o n c s,D.u = .slice b o n c s
def eD:List (Nat × (Nat × Nat))->Nat->(Nat × Nat)->List (Nat × (Nat × Nat))
 | [],a,v=>[(a,v)]
 | p :: D,a,v=>if p.1=a then (p.1,v):: D else p :: eD D a v
theorem EG:∀ (D) (a) (v),BW (iu D) a (sv v)=iu (eD D a v)
 | [],a,v=>rfl
 | p :: D,a,v=>by
  have ih:=EG D a v
  by_cases h:p.1=a
  .simp [iu,BW,eD,h]
  .simp only [iu,Yd,BW,eD,h,if_false]
   simp only [iu]at ih
   rw [ih]
theorem ld:∀ (D) (a) (v),(eD D a v).length=if (find D a).isSome=true then D.length else D.length+1
 | [],a,v=>rfl
 | p :: D,a,v=>by
  have ih:=ld D a v
  by_cases h:p.1=a
  .have hb:=by omega
   simp [eD,find,h]
  .have hb:=by omega
   have hf:find (p :: D) a=find D a:=by simp [find,hb]
   rw [hf]
   simp only [eD,h,if_false,YF,ih]
   split<;>rfl
section
variable {cp:RC->aq} {t:Nat->Option cW} {fuel d:Nat} {H:Heap} {k:K}
theorem Q2 (T:TDisk t) {p a x:Nat} {D:DR} {es:List (Nat × (Nat × Nat))} {us:List V} (h:vH H p D es us) (ho:D.off=false) (hf:D.bh≠1) (hub:us.length<3000000) (heb:es.length<1000000)
 (ha:a<D.len) (hroom:(find es a).isSome=true\/es.length<D.room):
 ∃ H' D',(∀ (d:Nat) (k:K),aj (aQ cp t fuel (d+3)) (.func 268 []) [.ptr p 0,.int 3 a,.str 32 x] H k=k (.int 3 0) H')/\
  vH H' p D' (eD es a (32,x)) (us ++ [.int 3 a,sv ((find es a).getD (0,0)),.bool (find es a).isSome])/\D'.m=D.m/\D'.len=D.len/\D'.room=D.room/\D'.bh=D.bh-1/\D'.off=false/\H.n<=H'.n/\
  (∀ b,b<H.n->¬ D.owns p b->H'.get b=H.get b/\¬ D'.owns p b)/\
  (∀ lo,lo<=H.bC->lo<=H.n->(∀ b,D.owns p b->lo<=b)->lo<=H'.bC/\∀ b,D'.owns p b->lo<=b):=by
 have hlen:=ld es a (32,x)
 have hle:(eD es a (32,x)).length<=es.length+1:=by grind
 have hw:=h.wf
 have hp:=h.hp
 have rH:=h.rH
 have hfb:nn (D.bh-1):=by have:=h.hf;unfold nn at *;omega
 have n1:=by omega
 have n2:¬ p=H.n+1:=by omega
 have n3:=by omega
 have n4:¬ D.m=H.n+1:=by omega
 have n5:p<H.n+1+1:=by omega
 have n6:D.m<H.n+1+1:=by omega
 have n7:¬ p=D.m:=λe=>h.AU e.symm
 have hv:BW (iu es) a (.str 32 x)=iu (eD es a (32,x)):=EG es a (32,x)
 rcases h.PW with ⟨hu,rfl⟩|⟨ub,n,hu,hus,hn0,hub',hubn,hup,hum⟩
 .refine ⟨_,{D with bh:=D.bh-1,u:=.slice (H.n+1) 0 1 0 3,off:=false },λd k=>Ik T hw hp h.hg h.hm rH h.AU ho hf h.hf h.hl h.hr h.he ha hroom hu,?_,rfl,rfl,rfl,rfl,rfl,?_,λb hb hno=>?_,λlo hlo hln hlO=>⟨?_,?_⟩⟩
  .refine ⟨by simp only [Heap.bI,Heap.bg,hw],by simp only [Heap.aT,Heap.aO];omega,?_,?_,by simp only [Heap.aT,Heap.aO];exact n6,h.AU,YE ⟨H.n+1,1,rfl,rfl,by omega,?_,by simp only [Heap.aT,Heap.aO];omega,λe=>n2 e.symm,λe=>n4 e.symm⟩,h.hl,h.hr,hfb,by omega⟩
   .simp only [Heap.aF,Heap.aH,Heap.bI,Heap.bg,Heap.aT,Heap.aO,hw,hp,n5,n6,n7,if_false,if_true,ho]
   .simp only [Heap.aF,Heap.aH,Heap.bI,Heap.bg,Heap.aT,Heap.aO,hw,hp,n5,n6,if_true,hv]
   .have e1:¬ H.n+1=D.m:=λe=>n4 e.symm
    have e2:¬ H.n+1=p:=λe=>n2 e.symm
    simp only [Heap.aF,Heap.aH,Heap.bI,Heap.bg,Heap.aT,Heap.aO,hw,hp,n5,n6,e1,e2,if_false,if_true,YN]
  .simp only [Heap.aT,Heap.aO];omega
  .have e1:¬ b=D.m:=λe=>hno (YE (YG e))
   have e2:¬ b=p:=λe=>hno (YG e)
   have e3:¬ b=H.n:=by omega
   have e4:¬ b=H.n+1:=by omega
   refine ⟨by simp only [Heap.aF,Heap.aH,Heap.bI,Heap.bg,Heap.aT,Heap.aO,hw,hp,n5,n6,e1,e2,e3,e4,if_false],?_⟩
   rintro (e|e|⟨o,m,c,s,e⟩)
   .exact e2 e
   .exact e1 e
   grind
  .exact Heap.fj (Heap.fj (Heap.qG (Heap.qG (Heap.fj hlo (hlO _ (YG rfl))))) (hlO _ (YG rfl))) (hlO _ (YE (YG rfl)))
  .rintro b (e|e|⟨o,m,c,s,e⟩)
   .exact hlO b (YG e)
   .exact hlO b (YE (YG e))
   grind
 .have n8:=by omega
  have n9:=by omega
  have n10:ub<H.n+1:=by omega
  have n12:¬ p=ub:=λe=>hup e.symm
  have n13:¬ D.m=ub:=λe=>hum e.symm
  refine ⟨_,{D with bh:=D.bh-1,u:=.slice (H.n+1) 0 (n+1) 0 3,off:=false },λd k=>ET T hw hp h.hg h.hm rH h.AU ho hf h.hf h.hl h.hr h.he ha hroom hu hus hn0 (by omega) hub' hubn hup hum,?_,rfl,rfl,rfl,rfl,rfl,?_,λb hb hno=>?_,λlo hlo hln hlO=>⟨?_,?_⟩⟩
  .refine ⟨by simp only [Heap.bI,Heap.bg,hw],by simp only [Heap.aT,Heap.aO];omega,?_,?_,by simp only [Heap.aT,Heap.aO];exact n6,h.AU,YE ⟨H.n+1,n+1,rfl,by simp;omega,by omega,?_,by simp only [Heap.aT,Heap.aO];omega,λe=>n2 e.symm,λe=>n4 e.symm⟩,h.hl,h.hr,hfb,by omega⟩
   .simp only [Heap.aF,Heap.aH,Heap.bI,Heap.bg,Heap.aT,Heap.aO,hw,hp,n5,n6,n7,n10,if_false,if_true,ho]
   .simp only [Heap.aF,Heap.aH,Heap.bI,Heap.bg,Heap.aT,Heap.aO,hw,hp,n5,n6,n10,if_true,hv]
   .have e1:¬ H.n+1=D.m:=λe=>n4 e.symm
    have e2:¬ H.n+1=p:=λe=>n2 e.symm
    simp only [Heap.aF,Heap.aH,Heap.bI,Heap.bg,Heap.aT,Heap.aO,hw,hp,n5,n6,n10,e1,e2,if_false,if_true]
  .simp only [Heap.aT,Heap.aO];omega
  .have e1:¬ b=D.m:=λe=>hno (YE (YG e))
   have e2:¬ b=p:=λe=>hno (YG e)
   have e3:¬ b=H.n:=by omega
   have e4:¬ b=H.n+1:=by omega
   have e5:¬ b=ub:=λe=>hno (YE (YE ⟨0,n,0,3,by rw [hu,e]⟩))
   refine ⟨by simp only [Heap.aF,Heap.aH,Heap.bI,Heap.bg,Heap.aT,Heap.aO,hw,hp,n5,n6,n10,e1,e2,e3,e4,e5,if_false],?_⟩
   rintro (e|e|⟨o,m,c,s,e⟩)
   .exact e2 e
   .exact e1 e
   grind
  .exact Heap.fj (Heap.fj (Heap.qG (Heap.fj (Heap.qG (Heap.fj hlo (hlO _ (YG rfl)))) (hlO _ (YE (YE ⟨0,n,0,3,hu⟩))))) (hlO _ (YG rfl))) (hlO _ (YE (YG rfl)))
  .rintro b (e|e|⟨o,m,c,s,e⟩)
   .exact hlO b (YG e)
   .exact hlO b (YE (YG e))
   grind
end
end Go.Ev
end
section
namespace Go.Ev
section
variable {cp:RC->aq} {t:Nat->Option cW} {fuel d:Nat} {H:Heap} {k:K}
structure TDisk2 (t:Nat->Option cW):Prop extends TDisk t where
 flush:t 135=some (.code [s000] [.tmp s002] RN)
 read:t 87=some (.code [s000,s001] [.tmp s004,.tmp s005] c87)
 len:t 46=some (.code [s000] [.tmp s002] c46)
 on:t 108=some (.code [s000] [.tmp s002] VV)
variable (T:TDisk2 t)
include T
theorem On {p} {D:DR} (hw:H.wf) (hp:p<H.n) (hg:H.get p=D.cQ):
 aj (aQ cp t fuel (d+1)) (.func 92 []) [.ptr p 0] H k=k (.int 3 D.len) H:=by
 rw [aB T.len rfl rfl]
 simp only [go_sem,c46,DR.cQ,hg]
theorem SZ {p} {D:DR} (hw:H.wf) (hp:p<H.n) (hg:H.get p=D.cQ):
 aj (aQ cp t fuel (d+2)) (.func 216 []) [.ptr p 0] H k=k (.bool (!D.off)) H:=by
 have hs:∀ {k},aj (aQ cp t fuel (d+1)) (.func 76 []) [.ptr p 0] H k=k (.int 3 (if D.off=true then 6 else 0)) H:=λ{k}=>ew T.toTDisk hw hp hg
 rw [aB T.on rfl rfl]
 cases ho:D.off<;>rw [ho]at hs<;>simp only [Bool.false_eq_true,if_false,if_true]at hs<;>simp only [go_sem,VV,hs]
theorem Gi {p} {D:DR} (hw:H.wf) (hp:p<H.n) (hg:H.get p=D.cQ) (ho:D.off=false) (hf:D.bh≠1) (hfb:nn D.bh):
 aj (aQ cp t fuel (d+3)) (.func 270 []) [.ptr p 0] H k=k (.int 3 0) (H.put p {D with bh:=D.bh-1,u:=.aw }.cQ):=by
 have hs:∀ {k},aj (aQ cp t fuel (d+2)) (.func 76 []) [.ptr p 0] H k=k (.int 3 0) H:=λ{k}=>by
  rw [ew T.toTDisk hw hp hg,ho]
  rfl
 have hb:∀ {k},aj (aQ cp t fuel (d+2)) (.func 328 []) [.ptr p 0] H k=k (.int 3 0) (H.put p {D with bh:=D.bh-1 }.cQ):=λ{k}=>sK T.toTDisk hw hp hg ho hf hfb
 rw [aB T.flush rfl rfl]
 simp only [go_sem,RN,hs,hb,DR.cQ,hw,hp,ho]
set_option maxRecDepth 4000 in
theorem KQ {p a} {D:DR} {es} (hw:H.wf) (hp:p<H.n) (hg:H.get p=D.cQ) (hm:H.get D.m = .map (eI (iu es))) (ho:D.off=false) (hl:nn D.len) (ha:a<D.len):
 aj (aQ cp t fuel (d+3)) (.func 174 []) [.ptr p 0,.int 3 a] H k=k (.cE [sv ((find es a).getD (32,0)),.int 3 0]) (if (find es a).isSome=true then H else H.new (.bytes 32 0)):=by
 have hs:∀ {k},aj (aQ cp t fuel (d+2)) (.func 76 []) [.ptr p 0] H k=k (.int 3 0) H:=λ{k}=>by
  rw [ew T.toTDisk hw hp hg,ho]
  rfl
 have ht:∀ {k},aj (aQ cp t fuel (d+2)) (.func 254 []) [.ptr p 0,.int 3 a] H k=k (.bool true) H:=λ{k}=>by
  rw [iF T.toTDisk hw hp hg hl (by unfold nn at hl;omega),decide_eq_true ha]
 have hlk:=lW es a
 rw [aB T.read rfl rfl]
 cases hfi:find es a with
 | some q=>
  rw [hfi]at hlk
  simp only [QA,sv]at hlk
  simp only [go_sem,c87,hs,ht,DR.cQ,hg,hm,ho,hlk,Yn,YA1,sv]
 | none=>
  rw [hfi]at hlk
  simp only [Qi]at hlk
  simp only [go_sem,c87,hs,ht,DR.cQ,hg,hm,hw,ho,hlk,Qe,Qh,sv]
end
end Go.Ev
end
section
namespace Go.Ev
section
variable {cp:RC->aq} {t:Nat->Option cW} {fuel d:Nat} {k:K}
theorem wJ {ph} {kx} {b off n c s} {f} {Hs:Nat->Heap} {row} (hn:n<9223372036854775808) (bM:∀ i,i<n->(Hs i).get b = .cells row) (hlen:off+n<=row.length)
 (hf:∀ i v,i<n->row[off+i]? = some v->∀ k:K,aj ph f [v] (Hs i) k=k (.bool false) (Hs (i+1))):
 ∀ (m i r) (e),i+m=n->m<r->aa s000 e = .slice b off n c s->aa s001 e=f->aa s007 e = .int 3 n->aa s010 e = .int 3 i->
  ∀ x:R,(∀ e',kx 1 e' (Hs n)=x)->lr Am fuel ph kx r e (Hs i)=x:=by
 have hnn:nn n:=by unfold nn;omega
 intro m
 induction m with
 | zero=>
  intro i r e hi hr h0 h1 h7 h10 x hx
  obtain ⟨r,rfl⟩:∃ q,r=q+1:=⟨r-1,by omega⟩
  have hi':i=n:=by omega
  subst hi'
  have hlt:¬ i<i:=by omega
  rw [ax]
  simp only [go_sem,Am,h7,h10,hnn,hlt]
  exact hx _
 | succ m ih=>
  intro i r e hi hr h0 h1 h7 h10 x hx
  obtain ⟨r,rfl⟩:∃ q,r=q+1:=⟨r-1,by omega⟩
  have hlt:i<n:=by omega
  have hin:nn i:=by unfold nn;omega
  have hib:i<9223372036854775808:=by omega
  have hv:row[off+i]? = some row[off+i]:=YB (by omega)
  have hnth:∀ {id} {k},nth id row (off+i) k=k row[off+i]:=js hv
  have hc:=hf i _ hlt hv
  have hadd:(i+1)%18446744073709551616=i+1:=by omega
  rw [ax]
  simp only [go_sem,Am,h0,h1,h7,h10,hnn,hin,hlt,hib,hnth,bM i hlt,hc,hadd]
  refine ih (i+1) r _ (by omega) (by omega) ?_ ?_ ?_ ?_ x hx<;>simp only [go_sem,h0,h1,h7]
theorem xU {b off n c s} {f} {Hs:Nat->Heap} {row} (h1:t 168=some (.code [s000,s001] [.tmp s004] RQ)) (h2:t 153=some (.code [s000,s001] [.tmp s004] RP))
 (hn:n<9223372036854775808) (hfu:n<fuel) (bM:∀ i,i<n->(Hs i).get b = .cells row) (hlen:off+n<=row.length)
 (hf:∀ i v,i<n->row[off+i]? = some v->∀ k:K,aj (aQ cp t fuel d) f [v] (Hs i) k=k (.bool false) (Hs (i+1))):
 aj (aQ cp t fuel (d+2)) (.func 306 []) [.slice b off n c s,f] (Hs 0) k=k (.bool false) (Hs n):=by
 have hi:∀ {k},aj (aQ cp t fuel (d+1)) (.func 336 []) [.slice b off n c s,f] (Hs 0) k=k (.int 3 18446744073709551615) (Hs n):=λ{k}=>by
  rw [aB h1 rfl rfl]
  simp only [go_sem,RQ,hn]
  refine wJ (c:=c) (s:=s) hn bM hlen hf n 0 fuel _ (by omega) hfu ?_ ?_ ?_ ?_ _ λe'=>?_<;>simp only [go_sem]
 have h5:(dN (.ge 9223372036854775808 18446744073709551616) 18446744073709551615 0=true)=False:=by
  rw [CA]
  simp
 rw [aB h2 rfl rfl]
 simp only [go_sem,RP,hi,h5]
end
end Go.Ev
end
section
namespace Go.Ev
def ta (D:List (Nat × Nat)):List (Nat × V):=D.map λp=>(p.1,.int 3 p.2)
def C2 (D:List (Nat × Nat)) (a:Nat):Option Nat:=(D.find? λp=>p.1 == a).map (·.2)
def se:List (Nat × Nat)->Nat->Nat->List (Nat × Nat)
 | [],a,v=>[(a,v)]
 | p :: D,a,v=>if p.1=a then (p.1,v):: D else p :: se D a v
theorem DB:∀ (D) (a),SN (ta D) a=(C2 D a).map (V.int 3)
 | [],a=>rfl
 | p :: D,a=>by
  have ih:=DB D a
  unfold SN C2 ta at *
  simp only [Yd,Qz]
  cases h:p.1 == a with
  | true=>rfl
  | false=>omega
theorem xI:∀ (D) (a v),BW (ta D) a (.int 3 v)=ta (se D a v)
 | [],a,v=>rfl
 | p :: D,a,v=>by
  have ih:=xI D a v
  by_cases h:p.1=a
  .simp [ta,BW,se,h]
  .simp only [ta,Yd,BW,se,h,if_false]
   simp only [ta]at ih
   rw [ih]
def wg (D:List (Nat × Nat)) (a:Nat):List (Nat × Nat):=se D a (((C2 D a).getD 0+1)%18446744073709551616)
section
variable {cp:RC->aq} {t:Nat->Option cW} {fuel d:Nat} {H:Heap} {k:K}
structure TDisk3 (t:Nat->Option cW):Prop extends TDisk2 t where
 fits:t 125=some (.code [s000,s001] [.tmp s004] JG)
 fits1:t 152=some (.code [s000,s001,s002] [.tmp s004] Mf)
 index:t 168=some (.code [s000,s001] [.tmp s004] RQ)
 contains:t 153=some (.code [s000,s001] [.tmp s004] RP)
variable (T:TDisk3 t)
include T
set_option maxRecDepth 4000 in
theorem F7 {p a B0 B1 M} {D:DR} {es:List (Nat × (Nat × Nat))} {fr:List (Nat × Nat)} (hw:H.wf) (hp:p<H.n) (hg:H.get p=D.cQ) (hm:H.get D.m = .map (eI (iu es))) (h0:H.get B0 = .cells [.ptr p 0]) (h1:H.get B1 = .cells [.map M]) (hM:H.get M = .map (eI (ta fr))) (hMn:M<H.n)
 (hd0:p≠M) (hd1:D.m≠M) (hd2:B0≠M) (hd3:B1≠M) (hl:nn D.len) (ha:a<18446744073709551616):
 aj (aQ cp t fuel (d+2)) (.func 304 [.ptr B0 0,.ptr B1 0]) [.int 3 a] H k=k (.bool (!decide (a<D.len))) (if (find es a).isSome=true then H else H.put M (.map (eI (ta (wg fr a))))):=by
 have ht:∀ {k},aj (aQ cp t fuel (d+1)) (.func 254 []) [.ptr p 0,.int 3 a] H k=k (.bool (decide (a<D.len))) H:=λ{k}=>iF T.toTDisk hw hp hg hl ha
 have ht2:∀ {x} {k},aj (aQ cp t fuel (d+1)) (.func 254 []) [.ptr p 0,.int 3 a] (H.put M x) k=k (.bool (decide (a<D.len))) (H.put M x):=λ{x k}=>iF T.toTDisk (by rw [Heap.bI];omega) (by rw [Heap.aT];omega) (by rw [Heap.aF hw hMn,if_neg hd0];omega) hl ha
 have hlk:=lW es a
 have hlc:=DB fr a
 rw [aB T.fits1 rfl rfl]
 cases hfi:find es a with
 | some q=>
  rw [hfi]at hlk
  simp only [QA,sv]at hlk
  simp only [go_sem,Mf,ht,DR.cQ,hg,hm,hw,h0,h1,hlk,YA1]
 | none=>
  rw [hfi]at hlk
  simp only [Qi]at hlk
  cases hfc:C2 fr a with
  | some q=>
   rw [hfc]at hlc
   simp only [QA]at hlc
   have hu:=xI fr a ((q+1)%18446744073709551616)
   simp only [go_sem,Mf,ht2,DR.cQ,hg,hm,hw,h0,h1,hM,hMn,hd2,hlk,hlc,hu,wg,hfc,Qh,Yn]
  | none=>
   rw [hfc]at hlc
   simp only [Qi]at hlc
   have hu:=xI fr a 1
   simp only [go_sem,Mf,ht2,DR.cQ,hg,hm,hw,h0,h1,hM,hMn,hd2,hlk,hlc,hu,wg,hfc,Qh,Qe]
omit T in
def vk (es:List (Nat × (Nat × Nat))) (ns:List Nat):Nat->List (Nat × Nat)
 | 0=>[]
 | i+1=>if (find es (ns.getD i 0)).isSome=true then vk es ns i else wg (vk es ns i) (ns.getD i 0)
noncomputable def AN (es:List (Nat × (Nat × Nat))) (ns:List Nat) (G:Heap) (M:Nat):Nat->Heap
 | 0=>G
 | i+1=>if (find es (ns.getD i 0)).isSome=true then AN es ns G M i else (AN es ns G M i).put M (.map (eI (ta (vk es ns (i+1)))))
omit T in
theorem NX {es} {ns} {G} {M} (hw:G.wf) (hM:M<G.n) (h0:G.get M = .map []):∀ i,(AN es ns G M i).wf/\(AN es ns G M i).n=G.n/\(AN es ns G M i).get M = .map (eI (ta (vk es ns i)))/\∀ b,b≠M->(AN es ns G M i).get b=G.get b
 | 0=>⟨hw,rfl,h0,λ_ _=>rfl⟩
 | i+1=>by
  obtain ⟨g1,g2,g3,g4⟩:=NX hw hM h0 i
  simp only [AN]
  by_cases h:(find es (ns.getD i 0)).isSome=true
  .simp only [if_pos h,vk]
   exact ⟨g1,g2,g3,g4⟩
  .rw [if_neg h]
   have hn:M<(AN es ns G M i).n:=by omega
   exact ⟨by rw [Heap.bI];omega,by rw [Heap.aT];omega,by rw [Heap.aF g1 hn,if_pos rfl],λb hb=>by rw [Heap.aF g1 hn,if_neg hb];simp_all⟩
omit T in
theorem uB:∀ (D) (a v),(se D a v).length<=D.length+1
 | [],a,v=>by simp [se]
 | p :: D,a,v=>by
  have:=uB D a v
  simp only [se]
  split<;>simp<;>omega
omit T in
theorem wG {es} {ns}:∀ i,(vk es ns i).length<=i
 | 0=>YA _
 | i+1=>by
  have:=wG (es:=es) (ns:=ns) i
  simp only [vk]
  split
  .omega
  .have:=uB (vk es ns i) (ns.getD i 0) (((C2 (vk es ns i) (ns.getD i 0)).getD 0+1)%18446744073709551616)
   unfold wg
   omega
omit T in
theorem F5 {es} {ns} {G} {M lo} (h1:lo<=G.bC) (h2:lo<=M):∀ i,lo<=(AN es ns G M i).bC
 | 0=>h1
 | i+1=>by
  simp only [AN]
  split
  .exact F5 h1 h2 i
  .exact Heap.fj (F5 h1 h2 i) h2
set_option maxRecDepth 4000 in
theorem JY {p b off c s:Nat} {D:DR} {es:List (Nat × (Nat × Nat))} {ns:List Nat} {row:List V} (hw:H.wf) (hp:p<H.n) (hg:H.get p=D.cQ) (hm:H.get D.m = .map (eI (iu es))) (rH:D.m<H.n) (hb:H.get b = .cells row) (hbn:b<H.n) (ho:D.off=false) (hl:nn D.len) (hr:nn D.room)
 (hlen:off+ns.length<=row.length) (bM:∀ i v,ns[i]? = some v->row[off+i]? = some (.int 3 v)) (hns:∀ v ∈ ns,v<D.len) (hnb:ns.length<1000000) (heb:es.length<1000000) (hfu:ns.length<fuel):
 ∃ H',(∀ (d:Nat) (k:K),aj (aQ cp t fuel (d+5)) (.func 250 []) [.ptr p 0,.slice b off ns.length c s] H k=k (.bool (decide ((vk es ns ns.length).length=0\/es.length+(vk es ns ns.length).length<=D.room))) H')/\H'.wf/\H.n<=H'.n/\(∀ j,j<H.n->H'.get j=H.get j)/\∀ lo,lo<=H.bC->lo<=H.n->lo<=H'.bC:=by
 have n1:¬ p=H.n:=by omega
 have n2:¬ p=H.n+1:=by omega
 have n3:=by omega
 have n4:¬ D.m=H.n+1:=by omega
 have n5:=by omega
 have n6:=by omega
 have n7:=by omega
 have n8:¬ b=H.n+1:=by omega
 have n9:=by omega
 have m1:¬ H.n=H.n+1:=by omega
 have m2:¬ H.n=H.n+1+1:=by omega
 have m3:¬ H.n+1=H.n+1+1:=by omega
 have m4:¬ H.n+1+1=H.n+1:=by omega
 have m5:¬ H.n+1+1=H.n:=by omega
 have m6:H.n+1+1<H.n+1+1+1:=by omega
 have m7:¬ H.n+1=H.n:=by omega
 generalize hG:(((H.new (.cells [.ptr p 0])).new (.map [])).new (.cells [.xc])).put (H.n+1+1) (.cells [.map (H.n+1)])=G
 have gw:G.wf:=by rw [<- hG];simp only [Heap.bI,Heap.bg,hw]
 have gn:G.n=H.n+1+1+1:=by rw [<- hG];simp only [Heap.aT,Heap.aO]
 have gM:G.get (H.n+1) = .map []:=by rw [<- hG];simp only [Heap.aF,Heap.aH,Heap.bg,Heap.aO,hw,m6,m3,m7,if_false,if_true]
 have g0:G.get H.n = .cells [.ptr p 0]:=by rw [<- hG];simp only [Heap.aF,Heap.aH,Heap.bg,Heap.aO,hw,m6,m1,m2,if_false,if_true]
 have g1:G.get (H.n+1+1) = .cells [.map (H.n+1)]:=by rw [<- hG];simp only [Heap.aF,Heap.aH,Heap.bg,Heap.aO,hw,m6,if_true]
 have gold:∀ j,j<H.n->G.get j=H.get j:=λj hj=>by
  have e1:¬ j=H.n:=by omega
  have e2:¬ j=H.n+1:=by omega
  have e3:¬ j=H.n+1+1:=by omega
  rw [<- hG]
  simp only [Heap.aF,Heap.aH,Heap.bg,Heap.aO,hw,m6,e1,e2,e3,if_false]
 have hF:=NX (es:=es) (ns:=ns) gw (by rw [gn];omega) gM
 obtain ⟨f1,f2,f3,f4⟩:=hF ns.length
 have hlF:=wG (es:=es) (ns:=ns) ns.length
 have hc:∀ {d} {k},aj (aQ cp t fuel (d+4)) (.func 306 []) [.slice b off ns.length c s,.func 304 [.ptr H.n 0,.ptr (H.n+1+1) 0]] G k=k (.bool false) (AN es ns G (H.n+1) ns.length):=λ{d k}=>by
  refine xU (Hs:=AN es ns G (H.n+1)) T.index T.contains (by omega) hfu (λi hi=>?_) hlen (λi v hi hv k=>?_)
  .rw [(hF i).2.2.2 b n8,gold b hbn];exact hb
  .obtain ⟨q1,q2,q3,q4⟩:=hF i
   have hvi:ns[i]? = some ns[i]:=YB hi
   have hvn:ns.getD i 0=ns[i]:=by rw [List.getD_eq_getElem?_getD,hvi];rfl
   have hv':=bM i _ hvi
   rw [hv]at hv'
   cases hv'
   have hlt:=hns _ (List.getElem_mem hi)
   rw [F7 T q1 (by rw [q2,gn];omega) (by rw [q4 p n2,gold p hp];exact hg) (by rw [q4 D.m n4,gold D.m rH];exact hm) (by rw [q4 _ m1];exact g0) (by rw [q4 _ m4];exact g1) q3 (by rw [q2,gn];omega) n2 n4 m1 m4 hl (by unfold nn at hl;omega)]
   rw [decide_eq_true hlt]
   simp only [AN,vk,hvn,Bool.not_true]
   by_cases h:(find es ns[i]).isSome=true
   .rw [if_pos h,if_pos h]
   .rw [if_neg h,if_neg h,if_neg h]
 have hs:∀ {d} {k},aj (aQ cp t fuel (d+4)) (.func 76 []) [.ptr p 0] (H.new (.cells [.ptr p 0])) k=k (.int 3 0) (H.new (.cells [.ptr p 0])):=λ{d k}=>by
  rw [ew T.toTDisk (by simp only [Heap.bg,hw]) (by simp only [Heap.aO];omega) (by rw [Heap.aH hw,if_neg n1];exact hg),ho]
  rfl
 generalize hFn:(vk es ns ns.length).length=F at hlF
 have hFl:(eI (ta (vk es ns ns.length))).length=F:=by simp only [eI,ta,List.length_map,hFn]
 have hel:(eI (iu es)).length=es.length:=by simp [eI,iu]
 have hFnn:nn F:=by unfold nn;omega
 have hFb:F<9223372036854775808:=by omega
 have heb':es.length<9223372036854775808:=by omega
 have hp':(AN es ns G (H.n+1) ns.length).get p=D.cQ:=by rw [f4 p n2,gold p hp];exact hg
 have hm':(AN es ns G (H.n+1) ns.length).get D.m = .map (eI (iu es)):=by rw [f4 _ n4,gold _ rH];exact hm
 have h0':(AN es ns G (H.n+1) ns.length).get H.n = .cells [.ptr p 0]:=by rw [f4 _ m1];exact g0
 have h1':(AN es ns G (H.n+1) ns.length).get (H.n+1+1) = .cells [.map (H.n+1)]:=by rw [f4 _ m4];exact g1
 refine ⟨AN es ns G (H.n+1) ns.length,λd k=>?_,f1,by rw [f2,gn];omega,λj hj=>by rw [f4 j (by omega),gold j hj],λlo h1 h2=>F5 (by rw [<- hG];exact Heap.fj (Heap.qG (Heap.qG (Heap.qG h1))) (by omega)) (by omega) _⟩
 rw [aB T.fits rfl rfl]
 generalize AN es ns G (H.n+1) ns.length=G' at *
 by_cases hz:F=0
 .simp only [go_sem,ZE,JG,hs,hw,m6,hG,hc,h1',f3,hFl,hz,decide_true,true_or]
 .by_cases hle:es.length<=D.room
  .have e1:nn (D.room-es.length):=by unfold nn at *;omega
   have e2:(F<=D.room-es.length)=(es.length+F<=D.room):=propext ⟨λh=>by omega,λh=>by omega⟩
   by_cases hh:es.length+F<=D.room
   .simp only [go_sem,ZE,JG,hs,hw,m6,hG,hc,h1',h0',f3,hp',hm',DR.cQ,hFl,hFb,hel,heb',hFnn,hz,hle,hr,e1,e2,hh,decide_true,false_or]
   .simp only [go_sem,ZE,JG,hs,hw,m6,hG,hc,h1',h0',f3,hp',hm',DR.cQ,hFl,hFb,hel,heb',hFnn,hz,hle,hr,e1,e2,hh,decide_false,false_or]
  .have hh:¬ es.length+F<=D.room:=by omega
   have e3:(dN (.le 9223372036854775808 18446744073709551616) F ((D.room+(18446744073709551616-es.length))%18446744073709551616)=true)=False:=by
    rw [IG]
    unfold nn at hr
    exact propext ⟨λh=>by omega,False.elim⟩
   simp only [go_sem,ZE,JG,hs,hw,m6,hG,hc,h1',h0',f3,hp',hm',DR.cQ,hFl,hFb,hel,heb',hz,hh,e3,decide_false,false_or]
end
end Go.Ev
end
section
namespace Go.Ev
section
variable {cp:RC->aq} {t:Nat->Option cW} {fuel d:Nat} {H:Heap} {k:K}
abbrev aY (t:Nat->Option cW):Prop:=t=t
structure iY (t:Nat->Option cW):Prop extends TDisk3 t where
 new:t 36=some (.code [s000,s001] [.tmp s004] c36)
variable (T:iY t)
include T
theorem OH {n r} (hw:H.wf) (h1:1<=n) (h2:n<=1024) (hr:nn r):
 aj (aQ cp t fuel (d+1)) (.func 72 []) [.int 3 n,.int 3 r] H k=k (.ptr (H.n+1) 0) ((H.new (.map [])).new (DR.mk H.n .aw n r 0 false).cQ):=by
 have h5:nn 0:=by unfold nn;simp
 have h6:nn 1:=by unfold nn;simp
 have h7:nn 1024:=by unfold nn;simp
 have h8:nn n:=by unfold nn;omega
 have e1:¬ n<1:=by omega
 have e2:¬ 1024<n:=by omega
 have e3:¬ r<0:=by omega
 rw [aB T.new rfl rfl]
 simp only [go_sem,c36,DR.cQ,hw,hr,h5,h6,h7,h8,e1,e2,e3]
end
end Go.Ev
end
section
namespace Go.Ev
abbrev Tx:=Nat × Nat
structure AD where
 len:Nat
 room:Nat
 bh:Nat
 off:Bool
 es:List (Nat × Tx)
 us:List (Nat × Tx × Bool)
def NL (u:Nat × Tx × Bool):List V:=[.int 3 u.1,sv u.2.1,.bool u.2.2]
def JT (us:List (Nat × Tx × Bool)):List V:=us.flatMap NL
theorem CW (us):(JT us).length=us.length*3:=by
 induction us with
 | nil=>rfl
 | cons u us ih=>simp only [JT,WS,YD,YF]at ih ⊢;simp only [NL,YF,YM];omega
def cP (H:Heap) (p:Nat) (A:AD) (O:Nat->Prop):Prop:=
 ∃ D:DR,vH H p D A.es (JT A.us)/\D.len=A.len/\D.room=A.room/\D.bh=A.bh/\D.off=A.off/\O=D.owns p
structure Step (H:Heap) (O:Nat->Prop) (H':Heap) (O':Nat->Prop):Prop where
 wf:H'.wf
 n:H.n<=H'.n
 same:∀ b,b<H.n->¬ O b->H'.get b=H.get b/\¬ O' b
 lo:∀ lo,lo<=H.bC->lo<=H.n->(∀ b,O b->lo<=b)->lo<=H'.bC/\∀ b,O' b->lo<=b
theorem Step.refl {H:Heap} {O:Nat->Prop} (h:H.wf):Step H O H O:=⟨h,YA _,λ_ _ h=>⟨rfl,h⟩,λ_ h _ h'=>⟨h,h'⟩⟩
theorem Step.trans {H H1 H2:Heap} {O O1 O2:Nat->Prop} (h:Step H O H1 O1) (g:Step H1 O1 H2 O2):Step H O H2 O2:=
 ⟨g.wf,Ym h.n g.n,λb hb ho=>let ⟨e,o⟩:=h.same b hb ho;let ⟨e',o'⟩:=g.same b (YC hb h.n) o; ⟨e'.trans e,o'⟩,
  λlo h1 h2 h3=>let ⟨e,o⟩:=h.lo lo h1 h2 h3;g.lo lo e (Ym h2 h.n) o⟩
structure ae (H H':Heap):Prop where
 wf:H'.wf
 n:H.n<=H'.n
 same:∀ b,b<H.n->H'.get b=H.get b
 lo:∀ lo,lo<=H.bC->lo<=H.n->lo<=H'.bC
theorem ae.refl {H:Heap} (h:H.wf):ae H H:=⟨h,YA _,λ_ _=>rfl,λ_ h _=>h⟩
theorem ae.trans {H H1 H2:Heap} (h:ae H H1) (g:ae H1 H2):ae H H2:=
 ⟨g.wf,Ym h.n g.n,λb hb=>(g.same b (YC hb h.n)).trans (h.same b hb),λlo h1 h2=>g.lo lo (h.lo lo h1 h2) (Ym h2 h.n)⟩
theorem ae.new {H:Heap} {x:ee} (h:H.wf):ae H (H.new x):=
 ⟨by rw [Heap.bg];exact h,by rw [Heap.aO];omega,λb hb=>by rw [Heap.aH h,if_neg (by omega)],λ_ h _=>h⟩
theorem ae.put {H H1:Heap} {b:Nat} {x:ee} (h:ae H H1) (h1:H.n<=b) (h2:b<H1.n):ae H (H1.put b x):=
 ⟨by rw [Heap.bI];exact h.wf,by rw [Heap.aT];exact h.n,λj hj=>by rw [Heap.aF h.wf h2,if_neg (by omega)];exact h.same j hj,λlo h3 h4=>Heap.fj (h.lo lo h3 h4) (by omega)⟩
theorem ae.step {H H':Heap} {O:Nat->Prop} (h:ae H H'):Step H O H' O:=⟨h.wf,h.n,λb hb ho=>⟨h.same b hb,ho⟩,λlo h1 h2 h3=>⟨h.lo lo h1 h2,h3⟩⟩
theorem cP.wf {H:Heap} {p:Nat} {A:AD} {O:Nat->Prop} (h:cP H p A O):H.wf:=let ⟨_,h,_⟩:=h;h.wf
theorem cP.lt {H:Heap} {p:Nat} {A:AD} {O:Nat->Prop} (h:cP H p A O):∀ b,O b->b<H.n:=by
 obtain ⟨D,h,_,_,_,_,rfl⟩:=h
 rintro b (e|e|⟨o,m,c,s,e⟩)
 .rw [e];exact h.hp
 .rw [e];exact h.rH
 .rcases h.PW with ⟨hu,_⟩|⟨ub,n,hu,_,_,_,hub,_⟩
  .rw [hu]at e;cases e
  .rw [hu]at e;cases e;exact hub
theorem cP.cD {H H':Heap} {p:Nat} {A:AD} {O Q Q':Nat->Prop} (h:cP H p A O) (s:Step H Q H' Q') (hd:∀ b,O b->¬ Q b):cP H' p A O/\∀ b,O b->¬ Q' b:=by
 refine ⟨?_,λb hb=>(s.same b (h.lt b hb) (hd b hb)).2⟩
 obtain ⟨D,h,h1,h2,h3,h4,rfl⟩:=h
 refine ⟨D,⟨s.wf,YC h.hp s.n,?_,?_,YC h.rH s.n,h.AU,?_,h.hl,h.hr,h.hf,h.he⟩,h1,h2,h3,h4,rfl⟩
 .rw [(s.same p h.hp (hd p (YG rfl))).1];exact h.hg
 .rw [(s.same _ h.rH (hd _ (YE (YG rfl)))).1];exact h.hm
 .rcases h.PW with hu|⟨ub,n,hu,g1,g2,g3,g4,g5⟩
  .exact YG hu
  .exact YE ⟨ub,n,hu,g1,g2,by rw [(s.same ub g4 (hd ub (YE (YE ⟨_,_,_,_,hu⟩)))).1];exact g3,YC g4 s.n,g5⟩
theorem cP.fresh {H H':Heap} {p:Nat} {A:AD} {O:Nat->Prop} (h:cP H p A O) (s:ae H H'):cP H' p A O:=
 (h.cD (Q:=λ_=>False) (s.step) λ_ _ h=>h).1
theorem cP.own {H:Heap} {p:Nat} {A:AD} {O:Nat->Prop} (h:cP H p A O):O p:=by
 obtain ⟨D,h,_,_,_,_,rfl⟩:=h
 exact YG rfl
def AD.JL (A:AD):AD:={A with bh:=0,off:=true }
def AD.write (A:AD) (a:Nat) (x:Nat):AD × Nat:=
 if A.bh=1 then (A.JL,6) else
  ({A with bh:=A.bh-1,us:=A.us ++ [(a,(find A.es a).getD (0,0),(find A.es a).isSome)],es:=eD A.es a (32,x)},0)
def AD.flush (A:AD):AD × Nat:=if A.bh=1 then (A.JL,6) else ({A with bh:=A.bh-1,us:=[]},0)
def AD.read (A:AD) (a:Nat):Tx:=(find A.es a).getD (32,0)
section
variable {cp:RC->aq} {t:Nat->Option cW} {fuel:Nat} {H:Heap}
theorem Ca (T:iY t) {p d} {D:DR} {k} (hw:H.wf) (hp:p<H.n) (hg:H.get p=D.cQ) (hf:D.bh=1):
 aj (aQ cp t fuel (d+2)) (.func 328 []) [.ptr p 0] H k=k (.int 3 6) (H.put p {D with bh:=0,off:=true }.cQ):=by
 have h5:nn 0:=by unfold nn;simp
 have hs:∀ {k},aj (aQ cp t fuel (d+1)) (.func 76 []) [.ptr p 0] (H.put p {D with bh:=0,off:=true }.cQ) k=k (.int 3 6) (H.put p {D with bh:=0,off:=true }.cQ):=λ{k}=>by
  rw [ew T.toTDisk (by rw [Heap.bI];omega) (by rw [Heap.aT];omega) (by rw [Heap.aF hw hp,if_pos rfl])]
  rfl
 have ho:∀ {x} {k},x={D with bh:=0 }.cQ->aj (aQ cp t fuel (d+1)) (.func 32 []) [.ptr p 0] (H.put p x) k=k (.cE []) (H.put p {D with bh:=0,off:=true }.cQ):=λ{x k} hx=>by
  rw [OM T.toTDisk (by rw [Heap.bI];omega) (by rw [Heap.aT];omega) (by rw [Heap.aF hw hp,if_pos rfl];omega),Heap.iI]
 have ho':=λ{k}=>ho (k:=k) rfl
 simp only [DR.cQ]at hs ho'
 rw [aB T.VQ rfl rfl]
 have h4:max 0 0=0:=rfl
 simp only [go_sem,Mg,DR.cQ,hg,hw,hp,hf,h4,h5,hs,ho']
theorem Lm (T:iY t) {p d a x} {D:DR} {es} {k} (hw:H.wf) (hp:p<H.n) (hg:H.get p=D.cQ) (hm:H.get D.m = .map (eI (iu es))) (rH:D.m<H.n) (AU:D.m≠p) (ho:D.off=false) (hf:D.bh=1) (hl:nn D.len) (hr:nn D.room) (he:es.length<9223372036854775808)
 (ha:a<D.len) (hroom:(find es a).isSome=true\/es.length<D.room):
 aj (aQ cp t fuel (d+3)) (.func 268 []) [.ptr p 0,.int 3 a,.str 32 x] H k=k (.int 3 6) (H.put p {D with bh:=0,off:=true }.cQ):=by
 have hs:∀ {k},aj (aQ cp t fuel (d+2)) (.func 76 []) [.ptr p 0] H k=k (.int 3 0) H:=λ{k}=>by
  rw [ew T.toTDisk hw hp hg,ho]
  rfl
 have ht:∀ {k},aj (aQ cp t fuel (d+2)) (.func 254 []) [.ptr p 0,.int 3 a] H k=k (.bool true) H:=λ{k}=>by
  rw [iF T.toTDisk hw hp hg hl (by unfold nn at hl;omega),decide_eq_true ha]
 have hb:∀ {k},aj (aQ cp t fuel (d+2)) (.func 328 []) [.ptr p 0] H k=k (.int 3 6) (H.put p {D with bh:=0,off:=true }.cQ):=λ{k}=>Ca T hw hp hg hf
 rw [aB T.write rfl rfl]
 have hlk:=lW es a
 have hel:(eI (iu es)).length=es.length:=by simp [eI,iu]
 have hnn:nn es.length:=by unfold nn;omega
 cases hfi:find es a with
 | some q=>
  rw [hfi]at hlk
  simp only [QA,sv]at hlk
  simp only [go_sem,ZE,Cf,hs,ht,hb,DR.cQ,hg,hm,ho,hlk]
 | none=>
  rw [hfi]at hlk
  simp only [Qi]at hlk
  have hrm:¬ D.room<=es.length:=by
   grind
  simp only [go_sem,ZE,Cf,hs,ht,hb,DR.cQ,hg,hm,ho,hlk,hel,hnn,hr,he,hrm]
theorem J0 (T:iY t) {p d} {D:DR} {k} (hw:H.wf) (hp:p<H.n) (hg:H.get p=D.cQ) (ho:D.off=false) (hf:D.bh=1):
 aj (aQ cp t fuel (d+3)) (.func 270 []) [.ptr p 0] H k=k (.int 3 6) (H.put p {D with bh:=0,off:=true }.cQ):=by
 have hs:∀ {k},aj (aQ cp t fuel (d+2)) (.func 76 []) [.ptr p 0] H k=k (.int 3 0) H:=λ{k}=>by
  rw [ew T.toTDisk hw hp hg,ho]
  rfl
 have hb:∀ {k},aj (aQ cp t fuel (d+2)) (.func 328 []) [.ptr p 0] H k=k (.int 3 6) (H.put p {D with bh:=0,off:=true }.cQ):=λ{k}=>Ca T hw hp hg hf
 rw [aB T.flush rfl rfl]
 simp only [go_sem,RN,hs,hb,DR.cQ]
theorem cP.put {p:Nat} {D:DR} {es:List (Nat × Tx)} {us:List V} (h:vH H p D es us) {r f:Nat} {o:Bool} (hr:nn r) (hf:nn f):
 vH (H.put p {D with room:=r,bh:=f,off:=o }.cQ) p {D with room:=r,bh:=f,off:=o } es us/\Step H (D.owns p) (H.put p {D with room:=r,bh:=f,off:=o }.cQ) (D.owns p):=by
 have hw:=h.wf
 have hp:=h.hp
 have e1:∀ b,b≠p->(H.put p {D with room:=r,bh:=f,off:=o }.cQ).get b=H.get b:=λb hb=>by rw [Heap.aF hw hp,if_neg hb]
 refine ⟨⟨by rw [Heap.bI];exact hw,by rw [Heap.aT];exact hp,by rw [Heap.aF hw hp,if_pos rfl],(e1 _ h.AU).trans h.hm,by rw [Heap.aT];exact h.rH,h.AU,?_,h.hl,hr,hf,h.he⟩,by rw [Heap.bI];exact hw,by rw [Heap.aT];exact YA _,λb hb ho=>⟨e1 b λe=>ho (YG e),ho⟩,λlo h1 h2 h3=>⟨Heap.fj h1 (h3 p (YG rfl)),h3⟩⟩
 rcases h.PW with hu|⟨ub,n,hu,g1,g2,g3,g4,g5,g6⟩
 .exact YG hu
 .exact YE ⟨ub,n,hu,g1,g2,(e1 ub g5).trans g3,by rw [Heap.aT];exact g4,g5,g6⟩
theorem Ij (T:iY t) {p a x:Nat} {A:AD} {O:Nat->Prop} (h:cP H p A O) (ho:A.off=false) (hub:A.us.length<100000) (heb:A.es.length<1000000) (ha:a<A.len) (hroom:(find A.es a).isSome=true\/A.es.length<A.room):
 ∃ H' O',(∀ (d:Nat) (k:K),aj (aQ cp t fuel (d+3)) (.func 268 []) [.ptr p 0,.int 3 a,.str 32 x] H k=k (.int 3 (A.write a x).2) H')/\cP H' p (A.write a x).1 O'/\Step H O H' O':=by
 obtain ⟨D,h,h1,h2,h3,h4,rfl⟩:=h
 by_cases hf:A.bh=1
 .obtain ⟨g1,g2⟩:=cP.put h (f:=0) (o:=true) h.hr (by unfold nn;omega)
  refine ⟨_,DR.owns D p,λd k=>?_,⟨{D with bh:=0,off:=true },?_,?_⟩,g2⟩
  .rw [Lm T h.wf h.hp h.hg h.hm h.rH h.AU (h4.trans ho) (h3.trans hf) h.hl h.hr h.he (by omega) (by simp_all)]
   simp only [AD.write,if_pos hf]
  .simp only [AD.write,if_pos hf,AD.JL];omega
  .rw [show (A.write a x).1=A.JL by simp only [AD.write,if_pos hf]];exact ⟨h1,h2,rfl,rfl,rfl⟩
 .obtain ⟨H',D',g1,g2,g3,g4,g5,g6,g7,g8,g9,g10⟩:=Q2 T.toTDisk (a:=a) h (h4.trans ho) (by omega) (by rw [CW];omega) heb (by omega) (by simp_all)
  refine ⟨H',D'.owns p,λd k=>?_,⟨D',?_,?_⟩,g2.wf,g8,g9,g10⟩
  .rw [g1];simp only [AD.write,if_neg hf]
  .simp only [AD.write,if_neg hf]
   have:JT (A.us ++ [(a,(find A.es a).getD (0,0),(find A.es a).isSome)])=JT A.us ++ [.int 3 a,sv ((find A.es a).getD (0,0)),.bool (find A.es a).isSome]:=by
    simp only [JT,Wz,WS,List.flatMap_nil,YW,NL]
   simp_all
  .simp only [AD.write,if_neg hf]
   simp_all
theorem JZ (T:iY t) {p:Nat} {A:AD} {O:Nat->Prop} (h:cP H p A O) (ho:A.off=false):
 ∃ H' O',(∀ (d:Nat) (k:K),aj (aQ cp t fuel (d+3)) (.func 270 []) [.ptr p 0] H k=k (.int 3 A.flush.2) H')/\cP H' p A.flush.1 O'/\Step H O H' O':=by
 obtain ⟨D,h,h1,h2,h3,h4,rfl⟩:=h
 have hw:=h.wf
 have hp:=h.hp
 by_cases hf:A.bh=1
 .obtain ⟨g1,g2⟩:=cP.put h (f:=0) (o:=true) h.hr (by unfold nn;omega)
  refine ⟨_,DR.owns D p,λd k=>?_,⟨{D with bh:=0,off:=true },?_,?_⟩,g2⟩
  .rw [J0 T h.wf h.hp h.hg (h4.trans ho) (h3.trans hf)]
   simp only [AD.flush,if_pos hf]
  .simp only [AD.flush,if_pos hf,AD.JL];omega
  .rw [show A.flush.1=A.JL by simp only [AD.flush,if_pos hf]];exact ⟨h1,h2,rfl,rfl,rfl⟩
 .have e1:∀ b,b≠p->(H.put p {D with bh:=D.bh-1,u:=.aw }.cQ).get b=H.get b:=λb hb=>by rw [Heap.aF hw hp,if_neg hb]
  refine ⟨H.put p (DR.cQ {D with bh:=D.bh-1,u:=.aw }),DR.owns {D with bh:=D.bh-1,u:=.aw } p,λd k=>?_,⟨{D with bh:=D.bh-1,u:=.aw },?_,?_⟩,?_⟩
  .rw [Gi T.toTDisk2 hw hp h.hg (h4.trans ho) (by omega) h.hf]
   simp only [AD.flush,if_neg hf]
  .simp only [AD.flush,if_neg hf]
   exact ⟨by rw [Heap.bI];omega,by rw [Heap.aT];omega,by rw [Heap.aF hw hp,if_pos rfl],(e1 _ h.AU).trans h.hm,by rw [Heap.aT];exact h.rH,h.AU,YG ⟨rfl,rfl⟩,h.hl,h.hr,by have:=h.hf;unfold nn at *;grind,h.he⟩
  .simp only [AD.flush,if_neg hf]
   simp_all
  .refine ⟨by rw [Heap.bI];omega,by rw [Heap.aT];simp,λb hb hno=>⟨e1 b λe=>hno (YG e),?_⟩,λlo h1 h2 h3=>⟨Heap.fj h1 (h3 p (YG rfl)),?_⟩⟩
   .rintro (e|e|⟨o,m,c,s,e⟩)
    .exact hno (YG e)
    .exact hno (YE (YG e))
    simp_all
   .rintro b (e|e|⟨o,m,c,s,e⟩)
    .exact h3 b (YG e)
    .exact h3 b (YE (YG e))
    simp_all
theorem oK (T:iY t) {p a} {A} {O} (h:cP H p A O) (ho:A.off=false) (ha:a<A.len):
 ∃ H',(∀ (d) (k),aj (aQ cp t fuel (d+3)) (.func 174 []) [.ptr p 0,.int 3 a] H k=k (.cE [sv (A.read a),.int 3 0]) H')/\ae H H':=by
 obtain ⟨D,h,h1,h2,h3,h4,rfl⟩:=h
 refine ⟨_,λd k=>KQ T.toTDisk2 h.wf h.hp h.hg h.hm (h4.trans ho) h.hl (by omega),?_⟩
 split
 .exact ae.refl h.wf
 .exact ae.new h.wf
theorem GP (T:iY t) {p d} {k} {A} {O} (h:cP H p A O):
 aj (aQ cp t fuel (d+2)) (.func 216 []) [.ptr p 0] H k=k (.bool (!A.off)) H:=by
 obtain ⟨D,h,h1,h2,h3,h4,rfl⟩:=h
 rw [SZ T.toTDisk2 h.wf h.hp h.hg,h4]
theorem rN (T:iY t) {p d} {k} {A} {O} (h:cP H p A O):
 aj (aQ cp t fuel (d+1)) (.func 92 []) [.ptr p 0] H k=k (.int 3 A.len) H:=by
 obtain ⟨D,h,h1,h2,h3,h4,rfl⟩:=h
 rw [On T.toTDisk2 h.wf h.hp h.hg,h1]
theorem SR (T:iY t) {n r} (hw:H.wf) (h1:1<=n) (h2:n<=1024) (hr:nn r):
 ∃ H' p O,(∀ (d) (k),aj (aQ cp t fuel (d+1)) (.func 72 []) [.int 3 n,.int 3 r] H k=k (.ptr p 0) H')/\cP H' p ⟨n,r,0,false,[],[]⟩ O/\ae H H'/\∀ b,O b->H.n<=b:=by
 refine ⟨_,H.n+1,DR.owns ⟨H.n,.aw,n,r,0,false⟩ (H.n+1),λd k=>OH T hw h1 h2 hr,⟨⟨H.n,.aw,n,r,0,false⟩,⟨by simp only [Heap.bg,hw],by simp only [Heap.aO];omega,?_,?_,by simp only [Heap.aO];omega,by simp,YG ⟨rfl,rfl⟩,by show nn n;unfold nn;omega,hr,by show nn 0;unfold nn;omega,by simp⟩,rfl,rfl,rfl,rfl,rfl⟩,ae.trans (ae.new hw) (ae.new (by rw [Heap.bg];omega)),?_⟩
 .rw [Heap.aH (by rw [Heap.bg];omega),if_pos (by rfl)]
 .rw [Heap.aH (by rw [Heap.bg];omega),if_neg (by rw [Heap.aO];simp),Heap.aH hw,if_pos rfl];rfl
 .rintro b (e|e|⟨o,m,c,s,e⟩)
  .omega
  .simp_all
  simp_all
end
end Go.Ev
end
section
namespace Go.Ev
theorem aJ.iP {t:Nat->Option cW} (T:aJ t) (h:aY t):iY t:=
 {off:=T.k16,state:=T.k38,VQ:=T.abv,there:=T.aa9,write:=T.abd,
  flush:=T.abe,read:=T.k87,
  len:=T.k46,on:=T.aaY,
  fits:=T.aa7,fits1:=T.abr,index:=T.aby,contains:=T.abt,
  new:=T.k36 }
abbrev Wr:=Nat × Tx
def UU (w:Wr):List V:=[.int 3 w.1,.str w.2.1 w.2.2]
def bZ (ws:List Wr):List V:=ws.flatMap UU
theorem yD (w) (ws):bZ (w :: ws) = .int 3 w.1 :: .str w.2.1 w.2.2 :: bZ ws:=rfl
theorem ei (ws us):bZ (ws ++ us)=bZ ws ++ bZ us:=by simp only [bZ,Wz]
theorem dj (ws):(bZ ws).length=ws.length*2:=by
 induction ws with
 | nil=>rfl
 | cons w ws ih=>rw [yD];simp only [YF,ih];omega
theorem py (pre ws):(bZ (pre ++ ws)).drop (pre.length*2)=bZ ws:=by
 rw [ei,<- dj,List.drop_left]
def mi (H:Heap) (v:V) (ws:List Wr) (O:Nat->Prop):Prop:=(v = .aw/\ws=[])\/∃ b c s,v = .slice b 0 ws.length c s/\H.get b = .cells (bZ ws)/\b<H.n/\¬ O b
theorem mi.cD {H H':Heap} {v:V} {ws:List Wr} {O O':Nat->Prop} (h:mi H v ws O) (s:Step H O H' O'):mi H' v ws O':=by
 rcases h with h|⟨b,c,z,h1,h2,h3,h4⟩
 .exact YG h
 .exact YE ⟨b,c,z,h1,by rw [(s.same b h3 h4).1];exact h2,YC h3 s.n,(s.same b h3 h4).2⟩
theorem mi.fresh {H H':Heap} {v:V} {ws:List Wr} {O:Nat->Prop} (h:mi H v ws O) (s:ae H H'):mi H' v ws O:=h.cD s.step
def lS (l:List Nat):List (Nat × V):=l.map λa=>(a,.int 3 1)
theorem wT:∀ (l) (a),SN (lS l) a=if a ∈ l then some (.int 3 1) else none
 | [],a=>rfl
 | b :: l,a=>by
  have ih:=wT l a
  unfold SN lS at *
  simp only [Yd,Qz,List.mem_cons]
  by_cases h:a=b
  .simp_all
  .have hb:(b == a)=false:=by simpa using λe=>h e.symm
   simp only [hb,h,false_or]
   omega
theorem xJ:∀ (l) (a),a ∉ l->BW (lS l) a (.int 3 1)=lS (l ++ [a])
 | [],a,_=>rfl
 | b :: l,a,h=>by
  have hb:¬ b=a:=λe=>h (by simp [e])
  have ih:=xJ l a λh'=>h (YH _ h')
  simp only [lS,Yd,YP,BW,hb,if_false]
  simp only [lS]at ih
  rw [ih]
def qc (len:Nat) (w:Wr):Prop:=145<=w.1/\w.1<len/\w.2.1=32
instance (len:Nat) (w:Wr):Decidable (qc len w):=by unfold qc;infer_instance
def gW (len:Nat):List Nat->List Wr->Bool
 | _,[]=>true
 | seen,w :: ws=>if qc len w/\w.1 ∉ seen then gW len (seen ++ [w.1]) ws else false
section
variable {cp:RC->aq} {t:Nat->Option cW} {fuel:Nat} {H:Heap}
theorem mL (T:aJ t) (hc:aY t) {p d} {A} {O} {k} (h:cP H p A O):
 aj (aQ cp t fuel (d+3)) (.func 170 []) [.ptr p 0] H k=k (.int 3 (if A.off=true then 6 else 0)) H:=by
 have ho:∀ {k},aj (aQ cp t fuel (d+2)) (.func 216 []) [.ptr p 0] H k=k (.bool (!A.off)) H:=λ{k}=>GP (T.iP hc) h
 rw [aB T.k85 rfl rfl]
 cases hA:A.off<;>rw [hA]at ho<;>simp only [go_sem,c85,ho]
end
end Go.Ev
end
section
namespace Go.Ev
section
variable {cp:RC->aq} {t:Nat->Option cW} {fuel:Nat} {H:Heap}
set_option maxRecDepth 4000 in
theorem yY (T:aJ t) (hc:aY t) {d p b c s M i n:Nat} {A:AD} {O:Nat->Prop} {G:Heap} {w:Wr} {pre ws:List Wr} {seen:List Nat} {kn:KE} {kx:Nat->KE} {e:Env}
 (hD:cP G p A O) (hl:nn A.len) (hw1:w.1<18446744073709551616) (hw2:w.2.1<1000000) (hb:G.get b = .cells (bZ (pre ++ w :: ws))) (hbn:b<G.n) (hM:G.get M = .map (eI (lS seen))) (hMn:M<G.n) (hbM:b≠M) (hpM:p≠M)
 (hn:n=(pre ++ w :: ws).length) (hnb:n<1000000) (hi:i=pre.length)
 (h0:aa s000 e = .ptr p 0) (h5:aa s005 e = .map M) (h11:aa s011 e = .slice b 0 n c s) (h12:aa s012 e = .int 3 n) (h13:aa s013 e = .int 3 i) {x:R}
 (hT:qc A.len w/\w.1 ∉ seen->∀ e',aa s000 e' = .ptr p 0->aa s005 e' = .map M->aa s011 e' = .slice b 0 n c s->aa s012 e' = .int 3 n->aa s013 e' = .int 3 (i+1)->
  kn e' (((G.new (.cells [.int 3 0,.str 0 0])).put G.n (.cells [.int 3 w.1,.str w.2.1 w.2.2])).put M (.map (eI (lS (seen ++ [w.1])))))=x)
 (hF:¬ (qc A.len w/\w.1 ∉ seen)->∀ e',aa s004 e' = .bool false->kx 0 e' ((G.new (.cells [.int 3 0,.str 0 0])).put G.n (.cells [.int 3 w.1,.str w.2.1 w.2.2]))=x):
 fM pY fuel (aQ cp t fuel (d+1)) e G kn kx=x:=by
 have hw:=hD.wf
 have hlt:i<n:=by rw [hi,hn];simp only [YD,YF];omega
 have e1:nn i:=by unfold nn;omega
 have e2:nn n:=by unfold nn;omega
 have e3:i<9223372036854775808:=by omega
 have e4:i*2<=(bZ (pre ++ w :: ws)).length:=by rw [dj,<- hn];omega
 have hd:(bZ (pre ++ w :: ws)).drop (i*2) = .int 3 w.1 :: .str w.2.1 w.2.2 :: bZ ws:=by rw [hi,py];rfl
 have e5:=by omega
 have e6:=by omega
 have e7:=by omega
 have e8:G.n<G.n+1:=by omega
 have e9:(i+1)%18446744073709551616=i+1:=by omega
 have e10:=by omega
 have n145:nn 145:=by unfold nn;omega
 have n0:nn 0:=by unfold nn;omega
 have n1:nn 1:=by unfold nn;omega
 have e11:w.2.1<9223372036854775808:=by omega
 generalize hG2:(G.new (.cells [.int 3 0,.str 0 0])).put G.n (.cells [.int 3 w.1,.str w.2.1 w.2.2])=G2 at hT hF
 have f2:ae G G2:=by rw [<- hG2];exact ae.put (ae.new hw) (YA _) (by simp only [Heap.aO];omega)
 have g2n:G2.get G.n = .cells [.int 3 w.1,.str w.2.1 w.2.2]:=by rw [<- hG2];simp only [Heap.aF,Heap.aH,Heap.bg,Heap.aO,hw,e8,if_true]
 have g2M:G2.get M = .map (eI (lS seen)):=by rw [f2.same M hMn];exact hM
 have g2w:=f2.wf
 have g2Mn:=YC hMn f2.n
 have hD2:cP G2.mark p A O:=by
  obtain ⟨D,q,r⟩:=hD.fresh f2
  exact ⟨D,⟨q.wf,q.hp,q.hg,q.hm,q.rH,q.AU,q.PW,q.hl,q.hr,q.hf,q.he⟩,r⟩
 have hL:∀ {k},aj (aQ cp t fuel (d+1)) (.func 92 []) [.ptr p 0] G2.mark k=k (.int 3 A.len) G2.mark:=λ{k}=>rN (T.iP hc) hD2
 have hlk:=wT seen w.1
 by_cases hg:qc A.len w
 .obtain ⟨q1,q2,q3⟩:=hg
  have e12:nn w.1:=by unfold nn at *;omega
  have e13:¬ w.1<145:=by omega
  have e14:¬ A.len<=w.1:=by omega
  have e15:=eq_true q3
  by_cases hs:w.1 ∈ seen
  .rw [if_pos hs]at hlk
   simp only [go_sem,ZE,pY,h0,h5,h11,h12,h13,hlt,e1,e2,e3,e4,hd,e8,hb,hw,hG2,g2n,g2M,hL,hlk,e11,e12,e13,e14,n145,n0,n1,hl,e15,Dh]
   exact hF (λh=>h.2 hs) _ rfl
  .rw [if_neg hs]at hlk
   have hu:=xJ seen w.1 hs
   simp only [go_sem,ZE,pY,h0,h5,h11,h12,h13,hlt,e1,e2,e3,e4,hd,e8,e9,hb,hw,hG2,g2n,g2M,g2w,hL,hlk,e11,e12,e13,e14,n145,n0,hl,e15,Dh,hu,g2Mn]
   refine hT ⟨⟨q1,q2,q3⟩,hs⟩ _ ?_ ?_ ?_ ?_ ?_<;>simp only [go_sem,h0,h5,h11,h12]
 .have hF':=hF (λh=>hg h.1)
  unfold qc at hg
  by_cases q1:(dN (.lt 9223372036854775808 18446744073709551616) w.1 145=true)
  .simp only [go_sem,pY,h11,h12,h13,hlt,e1,e2,e3,e4,hd,e8,hb,hw,hG2,g2n,q1]
   exact hF' _ rfl
  .have q1':=q1
   rw [IH]at q1
   have e12:nn w.1:=by unfold nn;omega
   have e13:¬ w.1<145:=by omega
   by_cases q2:A.len<=w.1
   .simp only [go_sem,pY,h0,h11,h12,h13,hlt,e1,e2,e3,e4,hd,e8,hb,hw,hG2,g2n,hL,e12,e13,n145,hl,q2,Dh]
    exact hF' _ rfl
   .have q3:¬ w.2.1=32:=λh=>hg ⟨by omega,by omega,h⟩
    simp only [go_sem,pY,h0,h11,h12,h13,hlt,e1,e2,e3,e4,hd,e8,hb,hw,hG2,g2n,hL,e11,e12,e13,n145,hl,q2,q3,Dh]
    exact hF' _ rfl
theorem Ov (T:aJ t) (hc:aY t) {p b c s M n} {A} {O} {all}
 (hD:cP H p A O) (hl:nn A.len) (hall:∀ w ∈ all,w.1<18446744073709551616/\w.2.1<1000000) (hb:H.get b = .cells (bZ all)) (hbn:b<H.n) (hM0:H.n<=M) (hn:n=all.length) (hnb:n<1000000):
 ∀ (ws pre) (seen) (G),all=pre ++ ws->ae H G->M<G.n->G.get M = .map (eI (lS seen))->
 ∃ G',ae H G'/\∀ (d) (kx) (r) (e),ws.length<r->aa s000 e = .ptr p 0->aa s005 e = .map M->aa s011 e = .slice b 0 n c s->aa s012 e = .int 3 n->aa s013 e = .int 3 pre.length->
  ∀ x:R,(gW A.len seen ws=true->∀ e',kx 1 e' G'=x)->(gW A.len seen ws=false->∀ e',aa s004 e' = .bool false->kx 0 e' G'=x)->
  lr pY fuel (aQ cp t fuel (d+1)) kx r e G=x:=by
 intro ws
 induction ws with
 | nil=>
  intro pre seen G hal f hMn hM
  refine ⟨G,f,λd kx r e hr h0 h5 h11 h12 h13 x hT hF=>?_⟩
  obtain ⟨r,rfl⟩:∃ q,r=q+1:=⟨r-1,by omega⟩
  have hi:pre.length=n:=by rw [hn,hal,YW]
  have e1:¬ n<n:=by omega
  have e2:nn n:=by unfold nn;omega
  rw [ax]
  rw [hi]at h13
  simp only [go_sem,pY,h12,h13,e1,e2]
  exact hT rfl _
 | cons w ws ih=>
  intro pre seen G hal f hMn hM
  have hbM:b≠M:=by omega
  have hpM:p≠M:=by have:=hD.lt p hD.own;omega
  have hw:=f.wf
  have hGM:=by omega
  have hn':n=(pre ++ w :: ws).length:=by rw [hn,hal]
  have hw12:=hall w (by rw [hal];simp)
  have hb':G.get b = .cells (bZ (pre ++ w :: ws)):=by rw [f.same b hbn,hb,hal]
  have hbG:=YC hbn f.n
  have f1:ae H ((G.new (.cells [.int 3 0,.str 0 0])).put G.n (.cells [.int 3 w.1,.str w.2.1 w.2.2])):=ae.put (f.trans (ae.new hw)) f.n (by simp only [Heap.aO];omega)
  have m1:M<((G.new (.cells [.int 3 0,.str 0 0])).put G.n (.cells [.int 3 w.1,.str w.2.1 w.2.2])).n:=by simp only [Heap.aT,Heap.aO];omega
  by_cases hg:qc A.len w/\w.1 ∉ seen
  .obtain ⟨G',f',hG'⟩:=ih (pre ++ [w]) (seen ++ [w.1]) (((G.new (.cells [.int 3 0,.str 0 0])).put G.n (.cells [.int 3 w.1,.str w.2.1 w.2.2])).put M (.map (eI (lS (seen ++ [w.1]))))) (by rw [hal];simp) (ae.put f1 hM0 m1) (by simp only [Heap.aT,Heap.aO];omega) (by rw [Heap.aF f1.wf m1,if_pos rfl])
   refine ⟨G',f',λd kx r e hr h0 h5 h11 h12 h13 x hT hF=>?_⟩
   obtain ⟨r,rfl⟩:∃ q,r=q+1:=⟨r-1,by omega⟩
   have hm:gW A.len seen (w :: ws)=gW A.len (seen ++ [w.1]) ws:=by simp only [gW,if_pos hg]
   rw [hm]at hT hF
   refine yY T hc (hD.fresh f) hl hw12.1 hw12.2 hb' hbG hM hMn hbM hpM hn' hnb rfl h0 h5 h11 h12 h13 (λ_ e' g0 g5 g11 g12 g13=>?_) (λh=>absurd hg h)
   exact hG' d kx r e' (by simp only [YF]at hr;omega) g0 g5 g11 g12 (by rw [g13];simp) x hT hF
  .refine ⟨_,f1,λd kx r e hr h0 h5 h11 h12 h13 x hT hF=>?_⟩
   obtain ⟨r,rfl⟩:∃ q,r=q+1:=⟨r-1,by omega⟩
   exact yY T hc (hD.fresh f) hl hw12.1 hw12.2 hb' hbG hM hMn hbM hpM hn' hnb rfl h0 h5 h11 h12 h13 (λh=>absurd h hg) (λ_ e' h4=>hF (by simp only [gW,if_neg hg]) e' h4)
theorem wY (T:aJ t) (hc:aY t) {p} {v} {A} {O Q} {ws}
 (hD:cP H p A O) (hl:nn A.len) (hv:mi H v ws Q) (hall:∀ w ∈ ws,w.1<18446744073709551616/\w.2.1<1000000) (hnb:ws.length<1000000) (hfu:ws.length<fuel):
 ∃ H',(∀ (d) (k),aj (aQ cp t fuel (d+2)) (.func 182 []) [.ptr p 0,v] H k=k (.bool (gW A.len [] ws)) H')/\ae H H':=by
 have hw:=hD.wf
 rcases hv with ⟨rfl,rfl⟩|⟨b,c,s,rfl,hb,hbn,_⟩
 .refine ⟨H.new (.map []),λd k=>?_,ae.new hw⟩
  obtain ⟨f,rfl⟩:∃ f,fuel=f+1:=⟨fuel-1,by omega⟩
  have n0:nn 0:=by unfold nn;omega
  have e1:=by omega
  rw [aB T.k91 rfl rfl]
  simp only [go_sem,ZE,c91,hw,ax,pY,n0,gW]
 .obtain ⟨G',f',hG'⟩:=Ov (c:=c) (s:=s) T hc hD hl hall hb hbn (YA _) rfl hnb ws [] [] (H.new (.map [])) rfl (ae.new hw) (by rw [Heap.aO];omega) (by rw [Heap.aH hw,if_pos rfl];rfl)
  refine ⟨G',λd k=>?_,f'⟩
  have e1:ws.length<9223372036854775808:=by omega
  rw [aB T.k91 rfl rfl]
  simp only [go_sem,c91,hw,e1]
  refine hG' d _ fuel _ hfu ?_ ?_ ?_ ?_ ?_ _ (λhT e'=>?_) (λhF e' h4=>?_)
  all_goals first|rfl|rfl|simp_all
end
end Go.Ev
end
section
namespace Go.Ev
section
variable {cp:RC->aq} {t:Nat->Option cW} {fuel d:Nat} {H:Heap} {k:K} {args caps:List V}
theorem vZ {f g} (hf:f%2=1) (hg:g%2=0) (hF:f/2=g/2):aj (aQ cp t fuel (d+1)) (.func f caps) args H k=aj (aQ cp t fuel (d+1)) (.func g []) (caps ++ args) H k:=by
 show Nat.rec (iZ args caps λargs=>F4 t fuel (aQ cp t fuel d) (WX f 2) args H k) (λ_ _=>iZ caps args λargs=>F4 t fuel (aQ cp t fuel d) (WX f 2) args H k) (Yr f 2)=Nat.rec (motive:=λ_=>R) (iZ (caps ++ args) [] λargs=>F4 t fuel (aQ cp t fuel d) (WX g 2) args H k) (λ_ _=>iZ [] (caps ++ args) λargs=>F4 t fuel (aQ cp t fuel d) (WX g 2) args H k) (Yr g 2)
 have h1:Yr f 2=1:=hf
 have h2:Yr g 2=0:=hg
 have h3:WX f 2=WX g 2:=hF
 rw [h1,h2,h3]
 show iZ caps args _=iZ (caps ++ args) [] _
 rw [eG,eG,YW]
end
def AD.qh (A:AD):List Wr->AD × Nat
 | []=>(A,0)
 | w :: ws=>if (A.write w.1 w.2.2).2=0 then (A.write w.1 w.2.2).1.qh ws else A.write w.1 w.2.2
def AD.kK (A:AD) (ws:List Wr):AD × Nat:=if (A.qh ws).2=0 then (A.qh ws).1.flush else A.qh ws
def roomy (room:Nat):List (Nat × Tx)->List Wr->Prop
 | _,[]=>True
 | es,w :: ws=>((find es w.1).isSome=true\/es.length<room)/\roomy room (eD es w.1 w.2) ws
theorem Jr (D) (a) (v):(eD D a v).length<=D.length+1:=by rw [ld];grind
def vG (H:Heap) (O:Nat->Prop) (f:V) (p:Nat) (ws:List Wr):Prop:=
 ∃ B0 B1 B2 v,f = .func 272 [.ptr B0 0,.ptr B1 0,.ptr B2 0]/\H.get B0 = .cells [v]/\H.get B1 = .cells [.func 269 [.ptr p 0]]/\H.get B2 = .cells [.func 271 [.ptr p 0]]/\
  (B0<H.n/\¬ O B0)/\(B1<H.n/\¬ O B1)/\(B2<H.n/\¬ O B2)/\mi H v ws O
theorem vG.cD {H H':Heap} {O O':Nat->Prop} {f:V} {p:Nat} {ws:List Wr} (h:vG H O f p ws) (s:Step H O H' O'):vG H' O' f p ws:=by
 obtain ⟨B0,B1,B2,v,h1,h2,h3,h4,⟨a0,b0⟩,⟨a1,b1⟩,⟨a2,b2⟩,h5⟩:=h
 exact ⟨B0,B1,B2,v,h1,by rw [(s.same _ a0 b0).1];exact h2,by rw [(s.same _ a1 b1).1];exact h3,by rw [(s.same _ a2 b2).1];exact h4,⟨YC a0 s.n,(s.same _ a0 b0).2⟩,⟨YC a1 s.n,(s.same _ a1 b1).2⟩,⟨YC a2 s.n,(s.same _ a2 b2).2⟩,h5.cD s⟩
section
variable {cp:RC->aq} {t:Nat->Option cW} {fuel:Nat} {H:Heap}
theorem nQ (T:aJ t) {p:Nat} {v:V} {O:Nat->Prop} {ws:List Wr} (hw:H.wf) (hO:∀ b,O b->b<H.n) (hv:mi H v ws O):
 ∃ H' f,(∀ (d:Nat) (k:K),aj (aQ cp t fuel (d+1)) (.func 186 []) [.ptr p 0,v] H k=k f H')/\ae H H'/\vG H' O f p ws:=by
 have hone:v = .aw\/∃ b o l c s,v = .slice b o l c s:=by
  rcases hv with ⟨rfl,_⟩|⟨b,c,s,rfl,_⟩
  .grind
  simp
 have e1:H.n+1<H.n+1+1+1:=by omega
 have e2:H.n+1+1<H.n+1+1+1:=by omega
 have e3:¬ H.n=H.n+1:=by omega
 have e4:¬ H.n=H.n+1+1:=by omega
 have e5:¬ H.n+1=H.n+1+1:=by omega
 have e6:=by omega
 have e7:¬ H.n+1=H.n:=by omega
 have f:ae H (((((H.new (.cells [v])).new (.cells [.tp])).new (.cells [.tp])).put (H.n+1) (.cells [.func 269 [.ptr p 0]])).put (H.n+1+1) (.cells [.func 271 [.ptr p 0]])):=
  ae.put (ae.put (ae.trans (ae.trans (ae.new hw) (ae.new (by simp only [Heap.bg,hw]))) (ae.new (by simp only [Heap.bg,hw]))) (by omega) (by simp only [Heap.aO];omega)) (by omega) (by simp only [Heap.aO,Heap.aT];omega)
 refine ⟨_,.func 272 [.ptr H.n 0,.ptr (H.n+1) 0,.ptr (H.n+1+1) 0],λd k=>?_,f,H.n,H.n+1,H.n+1+1,v,rfl,?_,?_,?_,⟨?_,λh=>?_⟩,⟨?_,λh=>?_⟩,⟨?_,λh=>?_⟩,hv.fresh f⟩
 .rw [aB T.k93 rfl rfl]
  rcases hone with rfl|⟨b,o,l,c,s,rfl⟩<;>simp only [go_sem,c93,hw,e1,e2,e5,e7]
 .simp only [Heap.aF,Heap.aH,Heap.bI,Heap.bg,Heap.aT,Heap.aO,hw,e1,e2,e3,e4,if_true,if_false]
 .simp only [Heap.aF,Heap.aH,Heap.bI,Heap.bg,Heap.aT,Heap.aO,hw,e1,e2,e5,if_true,if_false]
 .simp only [Heap.aF,Heap.aH,Heap.bI,Heap.bg,Heap.aT,Heap.aO,hw,e1,e2,if_true]
 .simp only [Heap.aT,Heap.aO];omega
 .grind
 .simp only [Heap.aT,Heap.aO];omega
 .grind
 .simp only [Heap.aT,Heap.aO];omega
 grind
set_option maxRecDepth 4000 in
theorem KI (T:aJ t) (hc:aY t) {p b c s n B1 B2:Nat} {all:List Wr} (hn:n=all.length) (hnb:n<10000):
 ∀ (ws pre:List Wr) (G:Heap) (A:AD) (O:Nat->Prop),all=pre ++ ws->cP G p A O->A.off=false->A.us.length+ws.length<90000->A.es.length+ws.length<900000->(∀ w ∈ ws,w.1<A.len/\w.2.1=32)->roomy A.room A.es ws->
  G.get b = .cells (bZ all)->b<G.n->¬ O b->G.get B1 = .cells [.func 269 [.ptr p 0]]->B1<G.n->¬ O B1->
 ∃ G' O',Step G O G' O'/\cP G' p (A.qh ws).1 O'/\∀ (d:Nat) (kx:Nat->KE) (r:Nat) (e:Env),ws.length<r->aa s001 e = .ptr B1 0->aa s002 e = .ptr B2 0->aa s007 e = .slice b 0 n c s->aa s010 e = .int 3 n->aa s011 e = .int 3 pre.length->
  ∀ x:R,((A.qh ws).2=0->∀ e',aa s002 e' = .ptr B2 0->kx 1 e' G'=x)->((A.qh ws).2≠0->∀ e',aa s003 e' = .int 3 (A.qh ws).2->kx 0 e' G'=x)->
  lr qw fuel (aQ cp t fuel (d+3)) kx r e G=x:=by
 intro ws
 induction ws with
 | nil=>
  intro pre G A O hal hD ho hus hes hgood hroom hb hbn hbO hB1 hB1n hB1O
  refine ⟨G,O,Step.refl hD.wf,hD,λd kx r e hr h1 h2 h7 h10 h11 x hT hF=>?_⟩
  obtain ⟨r,rfl⟩:∃ q,r=q+1:=⟨r-1,by grind⟩
  have hi:pre.length=n:=by grind
  have e1:¬ n<n:=by omega
  have e2:nn n:=by unfold nn;omega
  rw [ax]
  rw [hi]at h11
  simp only [go_sem,qw,h10,h11,e1,e2]
  exact hT rfl _ h2
 | cons w ws ih=>
  intro pre G A O hal hD ho hus hes hgood hroom hb hbn hbO hB1 hB1n hB1O
  have hw:=hD.wf
  obtain ⟨hw1,hw2⟩:=hgood w (YI ..)
  simp only [YF]at hus hes
  have e8:G.n<G.n+1:=by omega
  obtain ⟨wa,wl,wx⟩:=w
  simp only at hw1 hw2
  subst hw2
  generalize hG1:(G.new (.cells [.int 3 0,.str 0 0])).put G.n (.cells [.int 3 wa,.str 32 wx])=G1
  have f1:ae G G1:=by rw [<- hG1];exact ae.put (ae.new hw) (YA _) (by simp only [Heap.aO];omega)
  have hD1:=hD.fresh f1
  have g1n:G1.get G.n = .cells [.int 3 wa,.str 32 wx]:=by rw [<- hG1];simp only [Heap.aF,Heap.aH,Heap.bg,Heap.aO,hw,e8,if_true]
  have hB1':=(f1.same B1 hB1n).trans hB1
  obtain ⟨G2,O2,hcall,hD2,s2⟩:=Ij (T.iP hc) hD1 ho (by omega) (by omega) hw1 hroom.1
  have hcall':∀ {d} {k},aj (aQ cp t fuel (d+3)) (.func 269 [.ptr p 0]) [.int 3 wa,.str 32 wx] G1 k=k (.int 3 (A.write wa wx).2) G2:=λ{d k}=>by
   exact hcall d k
  have s12:=f1.step.trans s2
  have hlt:pre.length<n:=by grind
  have e1:nn pre.length:=by unfold nn;omega
  have e2:nn n:=by unfold nn;omega
  have e3:pre.length<9223372036854775808:=by omega
  have e4:pre.length*2<=(bZ all).length:=by rw [dj,<- hn];omega
  have hd:(bZ all).drop (pre.length*2) = .int 3 wa :: .str 32 wx :: bZ ws:=by rw [hal,py];rfl
  have e5:=by omega
  have e9:(pre.length+1)%18446744073709551616=pre.length+1:=by omega
  by_cases he:(A.write wa wx).2=0
  .have hA:A.qh ((wa,32,wx):: ws)=(A.write wa wx).1.qh ws:=by simp only [AD.qh,if_pos he]
   have hf1:¬ A.bh=1:=λh=>by simp only [AD.write,if_pos h]at he;omega
   have hw':(A.write wa wx).1={A with bh:=A.bh-1,us:=A.us ++ [(wa,(find A.es wa).getD (0,0),(find A.es wa).isSome)],es:=eD A.es wa (32,wx)}:=by simp only [AD.write,if_neg hf1]
   have hle:=Jr A.es wa (32,wx)
   obtain ⟨G',O',s',hD',hG'⟩:=ih (pre ++ [(wa,32,wx)]) G2 _ O2 (by grind) hD2 (by grind) (by grind) (by grind) (by grind) (by rw [hw'];exact hroom.2)
    (by rw [(s12.same b hbn hbO).1];exact hb) (YC hbn s12.n) (s12.same b hbn hbO).2 (by rw [(s12.same _ hB1n hB1O).1];exact hB1) (YC hB1n s12.n) (s12.same _ hB1n hB1O).2
   rw [hA]
   refine ⟨G',O',s12.trans s',hD',λd kx r e hr h1 h2 h7 h10 h11 x hT hF=>?_⟩
   obtain ⟨r,rfl⟩:∃ q,r=q+1:=⟨r-1,by omega⟩
   rw [ax]
   simp only [go_sem,qw,h1,h7,h10,h11,hlt,e1,e2,e3,e4,hd,e8,e9,hb,hw,hG1,g1n,hB1',hcall',he]
   refine hG' d kx r _ (by grind) ?_ ?_ ?_ ?_ ?_ x hT hF<;>simp only [go_sem,h1,h2,h7,h10]
  .have hA:A.qh ((wa,32,wx):: ws)=A.write wa wx:=by simp only [AD.qh,if_neg he]
   rw [hA]
   refine ⟨G2,O2,s12,hD2,λd kx r e hr h1 h2 h7 h10 h11 x hT hF=>?_⟩
   obtain ⟨r,rfl⟩:∃ q,r=q+1:=⟨r-1,by omega⟩
   rw [ax]
   simp only [go_sem,qw,h1,h7,h10,h11,hlt,e1,e2,e3,e4,hd,e8,hb,hw,hG1,g1n,hB1',hcall',he]
   exact hF he _ rfl
theorem T0 {A:AD}:∀ {ws},A.off=false->(A.qh ws).2=0->(A.qh ws).1.off=false:=by
 intro ws
 induction ws generalizing A with
 | nil=>intro h _;exact h
 | cons w ws ih=>
  intro h h0
  simp only [AD.qh]at h0 ⊢
  split at h0
  .rename_i h1
   rw [if_pos h1]
   refine ih ?_ h0
   by_cases hf:A.bh=1
   .simp [AD.write,if_pos hf]at h1
   .simp only [AD.write,if_neg hf];omega
  omega
theorem KG (T:aJ t) (hc:aY t) {p} {A} {O} {f} {ws} (hD:cP H p A O) (hf:vG H O f p ws) (ho:A.off=false) (hus:A.us.length+ws.length<90000) (hes:A.es.length+ws.length<900000) (hgood:∀ w ∈ ws,w.1<A.len/\w.2.1=32) (hroom:roomy A.room A.es ws) (hnb:ws.length<10000) (hfu:ws.length<fuel):
 ∃ H' O',(∀ (d) (k),aj (aQ cp t fuel (d+4)) f [] H k=k (.int 3 (A.kK ws).2) H')/\Step H O H' O'/\cP H' p (A.kK ws).1 O':=by
 obtain ⟨B0,B1,B2,v,rfl,h0,h1,h2,⟨a0,b0⟩,⟨a1,b1⟩,⟨a2,b2⟩,hv⟩:=hf
 have key:∃ G' O',Step H O G' O'/\cP G' p (A.qh ws).1 O'/\∀ (d) (x) (kx) (e),aa s001 e = .ptr B1 0->aa s002 e = .ptr B2 0->aa s007 e=v->aa s010 e = .int 3 ws.length->aa s011 e = .int 3 0->
  ((A.qh ws).2=0->∀ e',aa s002 e' = .ptr B2 0->kx 1 e' G'=x)->((A.qh ws).2≠0->∀ e',aa s003 e' = .int 3 (A.qh ws).2->kx 0 e' G'=x)->
  lr qw fuel (aQ cp t fuel (d+3)) kx fuel e H=x:=by
  rcases hv with ⟨rfl,rfl⟩|⟨b,c,s,rfl,hb,hbn,hbO⟩
  .refine ⟨H,O,Step.refl hD.wf,hD,λd x kx e g1 g2 g7 g10 g11 hT hF=>?_⟩
   obtain ⟨f,rfl⟩:∃ f,fuel=f+1:=⟨fuel-1,by omega⟩
   have n0:nn 0:=by unfold nn;omega
   have e1:=by omega
   rw [ax]
   simp only [go_sem,ZE,qw,g10,g11,n0]
   exact hT rfl _ (by simp only [go_sem,g2])
  .obtain ⟨G',O',s',hD',hG'⟩:=KI T hc rfl hnb ws [] H A O rfl hD ho hus hes hgood hroom hb hbn hbO h1 a1 b1
   exact ⟨G',O',s',hD',λd x kx e g1 g2 g7 g10 g11 hT hF=>hG' d kx fuel e hfu g1 g2 g7 g10 g11 x hT hF⟩
 obtain ⟨G',O',s',hD',hG'⟩:=key
 have e1:ws.length<9223372036854775808:=by omega
 have hB2':=(s'.same B2 a2 b2).1.trans h2
 by_cases he:(A.qh ws).2=0
 .obtain ⟨H2,O2,hcall,hD2,s2⟩:=JZ (T.iP hc) hD' (T0 ho he)
  have hcall':∀ {d} {k},aj (aQ cp t fuel (d+3)) (.func 271 [.ptr p 0]) [] G' k=k (.int 3 (A.qh ws).1.flush.2) H2:=λ{d k}=>by
   exact hcall d k
  refine ⟨H2,O2,λd k=>?_,s'.trans s2,by simp only [AD.kK,if_pos he];omega⟩
  rw [aB T.XA rfl rfl]
  simp only [AD.kK,if_pos he]
  rcases hv with ⟨rfl,rfl⟩|⟨b,c,s,rfl,_⟩
  .simp only [go_sem,ZE,RO,h0]
   refine hG' d _ _ _ ?_ ?_ ?_ ?_ ?_ (λ_ e' g2=>?_) (λh=>absurd he h)
   all_goals first|(simp only [go_sem,YM];done)|simp only [go_sem,g2,hB2',hcall']
  .simp only [go_sem,ZE,RO,h0,e1]
   refine hG' d _ _ _ ?_ ?_ ?_ ?_ ?_ (λ_ e' g2=>?_) (λh=>absurd he h)
   all_goals first|(simp only [go_sem];done)|simp only [go_sem,g2,hB2',hcall']
 .refine ⟨G',O',λd k=>?_,s',by simp only [AD.kK,if_neg he];omega⟩
  rw [aB T.XA rfl rfl]
  simp only [AD.kK,if_neg he]
  rcases hv with ⟨rfl,rfl⟩|⟨b,c,s,rfl,_⟩
  .exact absurd rfl he
  .simp only [go_sem,ZE,RO,h0,e1]
   refine hG' d _ _ _ ?_ ?_ ?_ ?_ ?_ (λh=>absurd h he) (λ_ e' g3=>?_)
   all_goals first|(simp only [go_sem];done)|simp only [go_sem,g3]
end
end Go.Ev
end
section
namespace Go.Ev
def AD.runs (A:AD):List (List Wr)->AD × Nat
 | []=>(A,0)
 | ws :: l=>if (A.kK ws).2=0 then (A.kK ws).1.runs l else A.kK ws
def laid (es:List (Nat × Tx)) (ws:List Wr):List (Nat × Tx):=ws.foldl (λes w=>eD es w.1 w.2) es
theorem iR (es) (ws us):laid es (ws ++ us)=laid (laid es ws) us:=by simp only [laid,List.foldl_append]
theorem mN {room}:∀ {ws us} {es},roomy room es (ws ++ us)↔roomy room es ws/\roomy room (laid es ws) us
 | [],us,es=>by simp only [YN,roomy,true_and];rfl
 | w :: ws,us,es=>by
  simp only [YP,roomy,and_assoc]
  rw [mN]
  rfl
theorem Dx (ws) (es):(laid es ws).length<=es.length+ws.length:=by
 induction ws generalizing es with
 | nil=>exact YA _
 | cons w ws ih=>
  have h1:=ih (eD es w.1 w.2)
  have h2:=Jr es w.1 w.2
  simp only [YF]
  have h3:laid es (w :: ws)=laid (eD es w.1 w.2) ws:=rfl
  rw [h3]
  omega
structure LD (A B:AD) (es:List (Nat × Tx)):Prop where
 len:B.len=A.len
 room:B.room=A.room
 off:B.off=A.off
 es:B.es=es
theorem EV:∀ {ws} {A},(∀ w ∈ ws,w.2.1=32)->(A.qh ws).2=0->LD A (A.qh ws).1 (laid A.es ws)/\(A.qh ws).1.us.length=A.us.length+ws.length
 | [],A,_,_=>⟨⟨rfl,rfl,rfl,rfl⟩,rfl⟩
 | w :: ws,A,hl,h0=>by
  simp only [AD.qh]at h0 ⊢
  split at h0
  .rename_i h1
   rw [if_pos h1]
   have hf:¬ A.bh=1:=λh=>by simp only [AD.write,if_pos h]at h1;omega
   have hw:(A.write w.1 w.2.2).1={A with bh:=A.bh-1,us:=A.us ++ [(w.1,(find A.es w.1).getD (0,0),(find A.es w.1).isSome)],es:=eD A.es w.1 (32,w.2.2)}:=by simp only [AD.write,if_neg hf]
   obtain ⟨⟨g1,g2,g3,g4⟩,g5⟩:=EV (λv hv=>hl v (YH _ hv)) h0
   have h32:(32,w.2.2)=w.2:=by rw [<- hl w (YI ..)]
   rw [hw,h32]at g1 g2 g3 g4 g5 ⊢
   refine ⟨⟨g1,g2,g3,g4⟩,?_⟩
   rw [g5]
   simp only [YD,YF,YM]
   omega
  omega
theorem zu {ws} {A} (hl:∀ w ∈ ws,w.2.1=32) (h0:(A.kK ws).2=0):LD A (A.kK ws).1 (laid A.es ws)/\(A.kK ws).1.us=[]:=by
 unfold AD.kK at h0 ⊢
 by_cases h1:(A.qh ws).2=0
 .rw [if_pos h1]at h0 ⊢
  obtain ⟨⟨g1,g2,g3,g4⟩,g5⟩:=EV hl h1
  by_cases hf:(A.qh ws).1.bh=1
  .simp only [AD.flush,if_pos hf]at h0;omega
  .simp only [AD.flush,if_neg hf]
   exact ⟨⟨g1,g2,g3,g4⟩,trivial⟩
 simp_all
def NJ (fs:List (V × List Wr)):List V:=fs.map (·.1)
structure BY (A:AD) (l:List (List Wr)):Prop where
 off:A.off=false
 us:∀ ws ∈ l,A.us.length+ws.length<90000
 es:A.es.length+l.flatten.length<900000
 Xn:∀ ws ∈ l,∀ w ∈ ws,w.1<A.len/\w.2.1=32
 room:roomy A.room A.es l.flatten
theorem BY.next {A:AD} {ws:List Wr} {l:List (List Wr)} (h:BY A (ws :: l)) (h0:(A.kK ws).2=0):BY (A.kK ws).1 l:=by
 obtain ⟨⟨g1,g2,g3,g4⟩,g5⟩:=zu (λw hw=>(h.Xn ws (YI ..) w hw).2) h0
 have hl:=Dx ws A.es
 refine ⟨g3.trans h.off,λus hus=>?_,?_,λus hus w hw=>?_,?_⟩
 .rw [g5];have:=h.us us (YH _ hus);simp only [YM];omega
 .rw [g4];have:=h.es;simp only [WO,YD]at this;omega
 .rw [g1];exact h.Xn us (YH _ hus) w hw
 .rw [g2,g4]
  have:=h.room
  simp only [WO]at this
  exact (mN.1 this).2
section
variable {cp:RC->aq} {t:Nat->Option cW} {fuel:Nat} {H:Heap}
set_option maxRecDepth 4000 in
theorem Pn (T:aJ t) (hc:aY t) {p b c s n} {all} (hn:n=all.length) (hnb:n<10000):
 ∀ (fs pre) (G) (A) (O),all=pre ++ fs->cP G p A O->BY A (fs.map (·.2))->(∀ f ∈ fs,vG G O f.1 p f.2/\f.2.length<10000/\f.2.length<fuel)->
  G.get b = .cells (NJ all)->b<G.n->¬ O b->
 ∃ G' O',Step G O G' O'/\cP G' p (A.runs (fs.map (·.2))).1 O'/\∀ (d) (kx) (r) (e),fs.length<r->aa s006 e = .slice b 0 n c s->aa s007 e = .int 3 n->aa s010 e = .int 3 pre.length->
  ∀ x:R,((A.runs (fs.map (·.2))).2=0->∀ e',kx 1 e' G'=x)->((A.runs (fs.map (·.2))).2≠0->∀ e',aa s002 e' = .int 3 (A.runs (fs.map (·.2))).2->kx 0 e' G'=x)->
  lr Cx fuel (aQ cp t fuel (d+4)) kx r e G=x:=by
 intro fs
 induction fs with
 | nil=>
  intro pre G A O hal hD hR hfs hb hbn hbO
  refine ⟨G,O,Step.refl hD.wf,hD,λd kx r e hr h6 h7 h10 x hT hF=>?_⟩
  obtain ⟨r,rfl⟩:∃ q,r=q+1:=⟨r-1,by omega⟩
  have hi:pre.length=n:=by rw [hn,hal,YW]
  have e1:¬ n<n:=by omega
  have e2:nn n:=by unfold nn;omega
  rw [ax]
  rw [hi]at h10
  simp only [go_sem,Cx,h7,h10,e1,e2]
  exact hT rfl _
 | cons f fs ih=>
  intro pre G A O hal hD hR hfs hb hbn hbO
  obtain ⟨f,ws⟩:=f
  obtain ⟨hf1,hf2,hf3⟩:=hfs (f,ws) (YI ..)
  simp only at hf1 hf2 hf3
  simp only [Yd]at hR ⊢
  have hrm:=hR.room
  have hes:=hR.es
  simp only [WO,YD]at hes
  obtain ⟨G2,O2,hcall,s2,hD2⟩:=KG (cp:=cp) T hc hD hf1 hR.off (hR.us ws (YI ..)) (by omega) (hR.Xn ws (YI ..)) (mN.1 hrm).1 hf2 hf3
  have hlt:pre.length<n:=by rw [hn,hal];simp only [YD,YF];omega
  have e1:nn pre.length:=by unfold nn;omega
  have e2:nn n:=by unfold nn;omega
  have e3:pre.length<9223372036854775808:=by omega
  have hget:(NJ all)[pre.length]? = some f:=by rw [hal];simp [NJ]
  have hnth:∀ {id} {k},nth id (NJ all) pre.length k=k f:=js hget
  have e9:(pre.length+1)%18446744073709551616=pre.length+1:=by omega
  by_cases he:(A.kK ws).2=0
  .have hA:A.runs (ws :: fs.map (·.2))=(A.kK ws).1.runs (fs.map (·.2)):=by simp only [AD.runs,if_pos he]
   obtain ⟨G',O',s',hD',hG'⟩:=ih (pre ++ [(f,ws)]) G2 _ O2 (by rw [hal];simp) hD2 (hR.next he) (λg hg=>⟨(hfs g (YH _ hg)).1.cD s2,(hfs g (YH _ hg)).2⟩) ((s2.same b hbn hbO).1.trans hb) (YC hbn s2.n) (s2.same b hbn hbO).2
   rw [hA]
   refine ⟨G',O',s2.trans s',hD',λd kx r e hr h6 h7 h10 x hT hF=>?_⟩
   obtain ⟨r,rfl⟩:∃ q,r=q+1:=⟨r-1,by omega⟩
   rw [ax]
   simp only [go_sem,Cx,h6,h7,h10,hlt,e1,e2,e3,hb,hnth,hcall,he,e9]
   refine hG' d kx r _ (by simp only [YF]at hr;omega) ?_ ?_ ?_ x hT hF<;>simp only [go_sem,h6,h7]
  .have hA:A.runs (ws :: fs.map (·.2))=A.kK ws:=by simp only [AD.runs,if_neg he]
   rw [hA]
   refine ⟨G2,O2,s2,hD2,λd kx r e hr h6 h7 h10 x hT hF=>?_⟩
   obtain ⟨r,rfl⟩:∃ q,r=q+1:=⟨r-1,by omega⟩
   rw [ax]
   simp only [go_sem,Cx,h6,h7,h10,hlt,e1,e2,e3,hb,hnth,hcall,he]
   exact hF he _ rfl
theorem xv (T:aJ t) (hc:aY t) {p b c s} {A} {O} {fs} (hD:cP H p A O) (hR:BY A (fs.map (·.2))) (hfs:∀ f ∈ fs,vG H O f.1 p f.2/\f.2.length<10000/\f.2.length<fuel) (hb:H.get b = .cells (NJ fs)) (hbn:b<H.n) (hbO:¬ O b) (hnb:fs.length<10000) (hfu:fs.length<fuel):
 ∃ H' O',(∀ (d) (k),aj (aQ cp t fuel (d+5)) (.func 184 []) [.slice b 0 fs.length c s] H k=k (.int 3 (A.runs (fs.map (·.2))).2) H')/\Step H O H' O'/\cP H' p (A.runs (fs.map (·.2))).1 O':=by
 obtain ⟨G',O',s',hD',hG'⟩:=Pn (c:=c) (s:=s) T hc rfl hnb fs [] H A O rfl hD hR hfs hb hbn hbO
 refine ⟨G',O',λd k=>?_,s',hD'⟩
 have e1:fs.length<9223372036854775808:=by omega
 rw [aB T.k92 rfl rfl]
 simp only [go_sem,c92,e1]
 refine hG' d _ fuel _ hfu ?_ ?_ ?_ _ (λh e'=>?_) (λh e' h2=>?_)
 all_goals first|rfl|simp_all|rfl
end
end Go.Ev
end
section
namespace Go.Ev
theorem iv:∀ (a b),enc (a ++ b)=enc a+enc b*256 ^ a.length
 | [],b=>by simp [enc]
 | x :: a,b=>by
  simp only [YP,enc,iv a b,YF,QM]
  have h:256*(enc b*256 ^ a.length)=enc b*(256 ^ a.length*256):=by rw [Nat.mul_left_comm,Wl 256]
  omega
theorem zM (a b):V.str (a.length+b.length) (enc a+enc b*256 ^ a.length)=tv (a ++ b):=by
 simp only [tv,YD,iv]
def be:Nat->Nat->List UInt8->List UInt8
 | 0,_,s=>s
 | m+1,n,s=>if n=0 then s else be m (n / 256) (UInt8.ofNat (n % 256):: s)
def bE (n:Nat):List UInt8:=UInt8.ofNat (be 8 n []).length :: be 8 n []
theorem pn:∀ (m n) (s),(be m n s).length<=m+s.length
 | 0,n,s=>by simp [be]
 | m+1,n,s=>by
  simp only [be]
  split
  .omega
  .have:=pn m (n/256) (UInt8.ofNat (n%256):: s)
   simp only [YF]at this
   omega
theorem bK (n):(bE n).length<=9:=by
 have:=pn 8 n []
 simp only [bE,YF,YM]at *
 omega
theorem toNat_ofNat {n:Nat} (h:n<256):(UInt8.ofNat n).toNat=n:=by simp_all
theorem mW {a b} (ha:a<18446744073709551616) (hb:b<18446744073709551616):(dN (.gt 0 18446744073709551616) a b=true)=(b<a):=by
 rw [MU,WI,WI,Yz ha,Yz hb]
theorem yW {a b} (ha:a<18446744073709551616) (hb:b<18446744073709551616):(dN (.lt 0 18446744073709551616) a b=true)=(a<b):=by
 rw [IH,WI,WI,Yz ha,Yz hb]
theorem Pb {s} {v i}:Hl (enc s*256 ^ (i+1)) i 1 v=(v+256*enc s)*256 ^ i:=by
 unfold Hl
 have h1:enc s*256 ^ (i+1)%256 ^ i=0:=by rw [QM,Wl (256 ^ i),<- YL1];simp
 have h2:(enc s*256 ^ (i+1)) >>> (8*(i+1))=enc s:=by
  rw [Yy,QE,show (2 ^ 8:Nat)=256 by rfl,YL3 _ (Nat.pow_pos (by omega))]
 rw [h1,h2,Nat.pow_one,Nat.zero_add,Wl (enc s)]
section
variable {cp:RC->aq} {t:Nat->Option cW} {fuel:Nat} {H:Heap}
theorem D0 (T:aJ t) {B}:
 ∀ (m n) (s) (G),m+s.length=8->n<256 ^ m->ae H G->H.n<=B->B<G.n->G.get B = .bytes 8 (enc s*256 ^ m)->
 ∃ G',ae H G'/\B<G'.n/\G'.get B = .bytes 8 (enc (be m n s)*256 ^ (8-(be m n s).length))/\∀ (d) (kx) (r) (e) (v0),m<r->aa s000 e=v0->aa s001 e = .int 7 n->aa s005 e = .ptr B 0->aa s006 e = .int 3 m->
  ∀ x:R,(∀ e',aa s000 e'=v0->aa s005 e' = .ptr B 0->aa s006 e' = .int 3 (8-(be m n s).length)->kx 1 e' G'=x)->
  lr vW fuel (aQ cp t fuel d) kx r e G=x:=by
 intro m
 induction m with
 | zero=>
  intro n s G hm hn f hB hBn hb
  have hn0:=by simp at hn;omega
  subst hn0
  have hs:8-s.length=0:=by omega
  simp only [be]
  refine ⟨G,f,hBn,by rw [hs];omega,λd kx r e v0 hr h0 h1 h5 h6 x hT=>?_⟩
  obtain ⟨r,rfl⟩:∃ q,r=q+1:=⟨r-1,by omega⟩
  have e1:(dN (.gt 0 18446744073709551616) 0 0=true)=False:=by rw [mW (by omega) (by omega)];simp
  rw [ax]
  simp only [go_sem,vW,h1,e1]
  exact hT _ h0 h5 (by simp only [go_sem,h6,hs])
 | succ m ih=>
  intro n s G hm hn f hB hBn hb
  have hn64:n<18446744073709551616:=by
   have:256 ^ (m+1)<=256 ^ 8:=Nat.pow_le_pow_right (by omega) (by omega)
   omega
  have e1:(dN (.gt 0 18446744073709551616) n 0=true)=(0<n):=mW hn64 (by omega)
  by_cases h0:n=0
  .subst h0
   simp only [be,if_true]
   have hs:8-s.length=m+1:=by omega
   refine ⟨G,f,hBn,by rw [hs];omega,λd kx r e v0 hr h0 h1 h5 h6 x hT=>?_⟩
   obtain ⟨r,rfl⟩:∃ q,r=q+1:=⟨r-1,by omega⟩
   have e2:=by omega
   rw [ax]
   simp only [go_sem,ZE,vW,h1,e1]
   exact hT _ h0 h5 (by simp only [go_sem,h6,hs])
  .have hd:n/256<256 ^ m:=by omega
   have hw:=f.wf
   have hx:Hl (enc s*256 ^ (m+1)) m 1 (n%256)=enc (UInt8.ofNat (n%256):: s)*256 ^ m:=by
    rw [Pb]
    simp only [enc,toNat_ofNat (show n%256<256 by omega)]
   obtain ⟨G',f',hB',hb',hG'⟩:=ih (n/256) (UInt8.ofNat (n%256):: s) (G.put B (.bytes 8 (enc (UInt8.ofNat (n%256):: s)*256 ^ m))) (by simp only [YF];omega) hd (ae.put f hB hBn) hB (by rw [Heap.aT];omega) (by rw [Heap.aF hw hBn,if_pos rfl])
   simp only [be,if_neg h0]
   refine ⟨G',f',hB',hb',λd kx r e v0 hr h0' h1 h5 h6 x hT=>?_⟩
   obtain ⟨r,rfl⟩:∃ q,r=q+1:=⟨r-1,by omega⟩
   have e2:0<n:=by omega
   have e3:(m+1+18446744073709551615)%18446744073709551616=m:=by omega
   have e4:m<8:=by omega
   have e5:m<9223372036854775808:=by omega
   have e6:m+1<=8:=by omega
   have e7:n >>> 8=n/256:=by omega
   rw [ax]
   simp only [go_sem,vW,h1,h5,h6,e1,e2,e3,e4,e5,e6,e7,hb,hx,hw,hBn,hn64]
   refine hG' d kx r _ v0 (by omega) ?_ ?_ ?_ ?_ x hT<;>simp only [go_sem,h0',h5]
theorem xl (T:aJ t) {d} {k} {l x b o n c s len y} (hb:H.get b = .bytes len y) (hl:o+n<=len) (hs:l+n<9223372036854775808):
 aj (aQ cp t fuel (d+1)) (.func 334 []) [.str l x,.slice b o n c s] H k=k (.str (l+n) (x+(y >>> (8*o))%256 ^ n*256 ^ l)) H:=by
 rw [aB T.abx rfl rfl]
 simp only [go_sem,aar,hb,hl,hs]
theorem eE (T:aJ t) {a} {n} (hw:H.wf) (ha:a.length<4000000000000000000) (hn:n<18446744073709551616) (hfu:8<fuel):
 ∃ H',(∀ (d) (k),aj (aQ cp t fuel (d+2)) (.func 300 []) [tv a,.int 7 n] H k=k (tv (a ++ bE n)) H')/\ae H H':=by
 obtain ⟨G',f',hB',hb',hG'⟩:=D0 T 8 n [] (H.new (.bytes 8 0)) rfl (by omega) (ae.new hw) (YA _) (by rw [Heap.aO];omega) (by rw [Heap.aH hw,if_pos rfl];simp [enc])
 have hle:=pn 8 n []
 simp only [YM,WI]at hle
 have hpn:bE n=UInt8.ofNat (be 8 n []).length :: be 8 n []:=rfl
 generalize be 8 n []=s at hb' hG' hle hpn
 have hw':=f'.wf
 have f2:ae H (G'.new (.bytes 1 s.length)):=f'.trans (ae.new hw')
 refine ⟨_,λd k=>?_,f2⟩
 have e1:(8+(18446744073709551616-(8-s.length)))%18446744073709551616=s.length:=by omega
 have e2:s.length%256=s.length:=by omega
 have p1:∀ {k},aj (aQ cp t fuel (d+1)) (.func 334 []) [.str a.length (enc a),.slice G'.n 0 1 2 0] (G'.new (.bytes 1 s.length)) k=k (.str (a.length+1) (enc a+s.length*256 ^ a.length)) (G'.new (.bytes 1 s.length)):=λ{k}=>by
  rw [xl T (by rw [Heap.aH hw',if_pos rfl]) (by omega) (by omega)]
  rw [Nat.mul_zero,Nat.shiftRight_zero,Nat.pow_one,e2]
 have hB2:(G'.new (.bytes 1 s.length)).get H.n = .bytes 8 (enc s*256 ^ (8-s.length)):=by rw [Heap.aH hw',if_neg (by omega)];omega
 have e3:8-(8-s.length)=s.length:=by omega
 have e4:(enc s*256 ^ (8-s.length)) >>> (8*(8-s.length))%256 ^ s.length=enc s:=by
  rw [Yy,QE,show (2 ^ 8:Nat)=256 by rfl,YL3 _ (Nat.pow_pos (by omega)),Yz (iw s)]
 have p2:∀ {k} {c},aj (aQ cp t fuel (d+1)) (.func 334 []) [.str (a.length+1) (enc a+s.length*256 ^ a.length),.slice H.n (8-s.length) s.length c 0] (G'.new (.bytes 1 s.length)) k=k (tv (a ++ bE n)) (G'.new (.bytes 1 s.length)):=λ{k c}=>by
  rw [xl T hB2 (by omega) (by omega),e4]
  congr 1
  rw [hpn]
  simp only [tv,YD,YF,V.str.injEq,iv,enc,toNat_ofNat (show s.length<256 by omega)]
  refine ⟨by omega,?_⟩
  rw [QM,Nat.add_mul,Nat.add_assoc,Wl 256 (enc s),YL1,Wl 256]
 have p3:∀ {k},aj (aQ cp t fuel (d+1)) (.func 334 []) [.str (a.length+1) (enc a+s.length*256 ^ a.length),.slice H.n 0 0 1 0] (G'.new (.bytes 1 s.length)) k=k (.str (a.length+1+0) (enc a+s.length*256 ^ a.length+enc s*256 ^ (8-s.length) >>> (8*0)%256 ^ 0*256 ^ (a.length+1))) (G'.new (.bytes 1 s.length)):=λ{k}=>xl T hB2 (by omega) (by omega)
 have e5:8-s.length<=8:=by omega
 have e6:8-s.length<9223372036854775808:=by omega
 rw [aB T.abp rfl rfl]
 rw [show tv a = .str a.length (enc a) from rfl]
 simp only [go_sem,aan,hw]
 refine hG' (d+1) _ fuel _ (.str a.length (enc a)) hfu ?_ ?_ ?_ ?_ _ (λe' g0 g5 g6=>?_)
 .rfl
 .rfl
 .rfl
 .rfl
 .by_cases hz:s.length=0
  .have hs0:=List.eq_nil_of_length_eq_zero hz
   subst hs0
   have hr:tv (a ++ bE n) = .str (a.length+1) (enc a):=by
    rw [hpn]
    simp only [tv,YD,YF,YM,V.str.injEq,iv,enc]
    simp
   have hz0:∀ q,0%256 ^ q=0:=λq=>Nat.zero_mod _
   simp only [YM,Nat.sub_zero,Nat.zero_mul,WI,enc,hz0]at p1 p3 g6
   simp only [go_sem,ZE,g0,g5,g6,hw',YM,p1,p3,hr]
  .have e7:¬ 8=8-s.length:=by omega
   simp only [go_sem,g0,g5,g6,hw',e1,e2,e3,e5,e6,e7,p1,p2]
end
end Go.Ev
end

