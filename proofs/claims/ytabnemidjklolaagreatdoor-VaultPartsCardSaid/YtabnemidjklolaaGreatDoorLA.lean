/- LA: a part of the evaluator,of its logic,or of the laws' walk in it. -/
import Derived.Test.YtabnemidjklolaaGreatDoorLg
import Derived.Test.YtabnemidjklolaaGreatDoorCode
open List renaming getElem?_eq_getElem→YA,length_append→YB,length_cons→YG,mem_cons_of_mem→YI,nil_append→YJ,cons_append→YK,mem_cons_self→YL,map_cons→YN,length_nil→YQ,append_nil→YV,flatten_cons→WO,flatMap_cons→WZ,flatMap_append→Ws,find?_cons→Qt
open Nat renaming le_refl→YC,lt_of_lt_of_le→YF,le_trans→Ys,mod→Yx,shiftRight_eq_div_pow→WD,mod_eq_of_lt→WE,add_zero→WM,div→Wm,mul_comm→Wt,pow_mul→QT,pow_succ→Qa,pow_pos→Qz,mul_assoc→YO0,mul_div_cancel→YO3
open Or renaming inr→YE,inl→YH
open Bool renaming false_eq_true→YT
open Option renaming getD_some→YU,getD_none→Ww,map_some→QE,isSome_none→Qs,map_none→Qu,isSome_some→YD1
set_option linter.unusedVariables false
set_option linter.unusedSimpArgs false
set_option linter.unusedSectionVars false
set_option maxHeartbeats 8000000
open Nat renaming reduceLT→ZE
section
namespace Go.Ev
structure DR where
 m:Nat
 u:V
 len:Nat
 room:Nat
 aX:Nat
 off:Bool
def DR.cV(D:DR):eB:=.cells [.map D.m,D.u,.int 3 D.len,.int 3 D.room,.int 3 D.aX,.bool D.off]
section
variable{cp:RC->au}{t:Nat->Option dr}{fuel d:Nat}{H:Heap}{k:K}
structure TDisk(t:Nat->Option dr):Prop where off:t 26=some (.code [s000] [] c26)state:t 71=some (.code [s000] [.tmp s002] c71)aaw:t 153=some (.code [s000] [.tmp s002] PC)there:t 119=some (.code [s000,s001] [.tmp s004] UP)write:t 126=some (.code [s000,s001,s002] [.tmp s006] Dz)
variable(T:TDisk t)
include T
theorem SU{p}{D:DR}(hw:H.wf)(hp:p<H.n)(hg:H.get p=D.cV):aj (aT cp t fuel (d+1)) (.func 52 []) [.ptr p 0] H k=k (.cG []) (H.put p {D with aX:=0,off:=true}.cV):=by rw[ay T.off rfl rfl];simp only[go_sem,c26,DR.cV,hg,hw,hp]
theorem ev{p}{D:DR}(hw:H.wf)(hp:p<H.n)(hg:H.get p=D.cV):aj (aT cp t fuel (d+1)) (.func 142 []) [.ptr p 0] H k=k (.int 3 (if D.off=true then 6 else 0)) H:=by rw[ay T.state rfl rfl];cases ho:D.off<;>simp only[go_sem,c71,DR.cV,hg,ho]
theorem te{p}{D:DR}(hw:H.wf)(hp:p<H.n)(hg:H.get p=D.cV)(ho:D.off=false)(hf:D.aX≠1)(hfb:nn D.aX):aj (aT cp t fuel (d+2)) (.func 306 []) [.ptr p 0] H k=k (.int 3 0) (H.put p {D with aX:=D.aX-1}.cV):=by
 have h5:=n_ 0;have hs:∀{k},aj (aT cp t fuel (d+1)) (.func 142 []) [.ptr p 0] (H.put p {D with aX:=D.aX-1}.cV) k=k (.int 3 0) (H.put p {D with aX:=D.aX-1}.cV):=λ{k}=>by rw[ev T (by rw[Heap.bH];omega) (by rw[Heap.aV];omega) (by rw[Heap.aG hw hp,if_pos rfl])];simp only[ho,YT,if_false]
 simp only[DR.cV,ho]at hs⊢;rw[ay T.aaw rfl rfl];by_cases h0:D.aX=0
 .have h6:vO true 9223372036854775808 18446744073709551616 18446744073709551615 0=0:=by decide
  have h7:¬(18446744073709551615=0):=by omega
  simp only[h0]at hs;simp only[go_sem,PC,DR.cV,hg,hw,hp,ho,h0,h6,h7,hs]
 .have h1:(D.aX+18446744073709551615)%18446744073709551616=D.aX-1:=by unfold nn at hfb;omega
  have h2:¬D.aX-1=0:=by omega
  have h3:nn (D.aX-1):=by unfold nn at*;omega
  have h4:max (D.aX-1) 0=D.aX-1:=by omega
  simp only[go_sem,PC,DR.cV,hg,hw,hp,ho,h1,h2,h3,h4,h5,hs]
theorem iR{p a}{D:DR}(hw:H.wf)(hp:p<H.n)(hg:H.get p=D.cV)(hl:nn D.len)(ha:a<18446744073709551616):aj (aT cp t fuel (d+1)) (.func 238 []) [.ptr p 0,.int 3 a] H k=k (.bool (decide (a<D.len))) H:=by
 have h5:nn 0:=by unfold nn;simp
 rw[ay T.there rfl rfl];by_cases h:nn a;.have h8:=Nat.zero_le a;by_cases h9:a<D.len<;>simp only[go_sem,UP,DR.cV,hg,h,h5,h8,h9,hl,decide_true,decide_false]
 .have h8:(dW (.ge 9223372036854775808 18446744073709551616) a 0=true)=False:=by
   rw[KA];unfold nn at h;apply propext;constructor;.omega
   simp
  have h9:¬a<D.len:=by unfold nn at h hl;omega
  simp only[go_sem,UP,h8,h9,decide_false]
def sv(p:Nat×Nat):V:=.str p.1 p.2
def iK(D:List (Nat×(Nat×Nat))):List (Nat×V):=D.map λp=>(p.1,sv p.2)
def find(D:List (Nat×(Nat×Nat)))(a:Nat):Option (Nat×Nat):=(D.find? λp=>p.1==a).map (·.2)
omit T in theorem mq:∀(D)(a),Vu (iK D) a=(find D a).map sv|[],a=>rfl|p::D,a=>by have ih:=mq D a;unfold Vu find iK at*;simp only[YN,Qt];cases h:p.1==a with|true=>rfl|false=>omega
set_option maxRecDepth 4000in theorem J6{p a x:Nat}{D:DR}{es:List (Nat×(Nat×Nat))}(hw:H.wf)(hp:p<H.n)(hg:H.get p=D.cV)(hm:H.get D.m=.map (eR (iK es)))(vK:D.m<H.n)(BV:D.m≠p)(ho:D.off=false)(hf:D.aX≠1)(hfb:nn D.aX)(hl:nn D.len)(hr:nn D.room)(he:es.length<9223372036854775808)(ha:a<D.len)(hroom:(find es a).isSome=true\/es.length<D.room)(hu:D.u=.aC):aj (aT cp t fuel (d+3)) (.func 252 []) [.ptr p 0,.int 3 a,.str 32 x] H k=k (.int 3 0) (((((H.put p {D with aX:=D.aX-1}.cV).new (.cells [.int 3 a,sv ((find es a).getD (0,0)),.bool (find es a).isSome])).new (.cells [.int 3 a,sv ((find es a).getD (0,0)),.bool (find es a).isSome])).put p {D with aX:=D.aX-1,u:=.slice (H.n+1) 0 1 0 3}.cV).put D.m (.map (eR (De (iK es) a (.str 32 x))))):=by
 have hs:∀{k},aj (aT cp t fuel (d+2)) (.func 142 []) [.ptr p 0] H k=k (.int 3 0) H:=λ{k}=>by rw[ev T hw hp hg,ho];rfl
 have ht:∀{k},aj (aT cp t fuel (d+2)) (.func 238 []) [.ptr p 0,.int 3 a] H k=k (.bool true) H:=λ{k}=>by rw[iR T hw hp hg hl (by unfold nn at hl;omega),decide_eq_true ha]
 have hb:∀{k},aj (aT cp t fuel (d+2)) (.func 306 []) [.ptr p 0] H k=k (.int 3 0) (H.put p {D with aX:=D.aX-1}.cV):=λ{k}=>te T hw hp hg ho hf hfb;have n1:¬p=H.n:=by omega
 have n2:¬p=H.n+1:=by omega
 have n3:¬D.m=H.n:=by omega
 have n4:¬D.m=H.n+1:=by omega
 have n5:p<H.n+1+1:=by omega
 have n6:D.m<H.n+1+1:=by omega
 have n7:=by omega
 rw[ay T.write rfl rfl];simp only[DR.cV]at hb;have hlk:=mq es a;have hel:(eR (iK es)).length=es.length:=by simp[eR,iK]
 have hnn:=n_ es.length;cases hfi:find es a with|some q=>rw[hfi]at hlk;simp only[QE,sv]at hlk;simp only[go_sem,↓da,ZE,Dz,hs,ht,hb,DR.cV,hg,hm,hw,hp,BV,ho,hu,hlk,n1,n2,n3,n4,n5,n6,YU,YD1,sv]|none=>
  rw[hfi]at hlk;simp only[Qu]at hlk;have hrm:¬D.room<=es.length:=by
   rcases hroom with h|h;.rw[hfi]at h;cases h
   .omega
  simp only[go_sem,↓da,ZE,Dz,hs,ht,hb,DR.cV,hg,hm,hw,hp,BV,ho,hu,hlk,hel,hnn,hr,he,hrm,n1,n2,n3,n4,n5,n6,Ww,Qs,sv]
set_option maxRecDepth 4000in theorem GY{p a x:Nat}{D:DR}{es:List (Nat×(Nat×Nat))}(hw:H.wf)(hp:p<H.n)(hg:H.get p=D.cV)(hm:H.get D.m=.map (eR (iK es)))(vK:D.m<H.n)(BV:D.m≠p)(ho:D.off=false)(hf:D.aX≠1)(hfb:nn D.aX)(hl:nn D.len)(hr:nn D.room)(he:es.length<9223372036854775808)(ha:a<D.len)(hroom:(find es a).isSome=true\/es.length<D.room){ub n:Nat}{us:List V}(hu:D.u=.slice ub 0 n 0 3)(hus:us.length=n*3)(hn0:0<n)(hnb:n<1073741000)(hub:H.get ub=.cells us)(hubn:ub<H.n)(hup:ub≠p)(hum:ub≠D.m):aj (aT cp t fuel (d+3)) (.func 252 []) [.ptr p 0,.int 3 a,.str 32 x] H k=k (.int 3 0) ((((((H.put p {D with aX:=D.aX-1}.cV).new (.cells [.int 3 a,sv ((find es a).getD (0,0)),.bool (find es a).isSome])).put ub .dead).new (.cells (us++[.int 3 a,sv ((find es a).getD (0,0)),.bool (find es a).isSome]))).put p {D with aX:=D.aX-1,u:=.slice (H.n+1) 0 (n+1) 0 3}.cV).put D.m (.map (eR (De (iK es) a (.str 32 x))))):=by
 have hs:∀{k},aj (aT cp t fuel (d+2)) (.func 142 []) [.ptr p 0] H k=k (.int 3 0) H:=λ{k}=>by rw[ev T hw hp hg,ho];rfl
 have ht:∀{k},aj (aT cp t fuel (d+2)) (.func 238 []) [.ptr p 0,.int 3 a] H k=k (.bool true) H:=λ{k}=>by rw[iR T hw hp hg hl (by unfold nn at hl;omega),decide_eq_true ha]
 have hb:∀{k},aj (aT cp t fuel (d+2)) (.func 306 []) [.ptr p 0] H k=k (.int 3 0) (H.put p {D with aX:=D.aX-1}.cV):=λ{k}=>te T hw hp hg ho hf hfb;have n1:¬p=H.n:=by omega
 have n2:¬p=H.n+1:=by omega
 have n3:¬D.m=H.n:=by omega
 have n4:¬D.m=H.n+1:=by omega
 have n5:p<H.n+1+1:=by omega
 have n6:D.m<H.n+1+1:=by omega
 have n7:=by omega
 have n8:¬ub=H.n:=by omega
 have n9:=by omega
 have n10:ub<H.n+1:=by omega
 have n11:n+1<=1073741824:=by omega
 have n12:¬p=ub:=λe=>hup e.symm;have n13:¬D.m=ub:=λe=>hum e.symm;rw[ay T.write rfl rfl];simp only[DR.cV]at hb;have hlk:=mq es a;have hel:(eR (iK es)).length=es.length:=by simp[eR,iK]
 have hnn:=n_ es.length;cases hfi:find es a with|some q=>rw[hfi]at hlk;simp only[QE,sv]at hlk;simp only[go_sem,↓da,ZE,Dz,hs,ht,hb,DR.cV,hg,hm,hw,hp,BV,ho,hu,hlk,n1,n2,n3,n4,n5,n6,n8,n10,n11,n12,n13,hus,hub,hup,YU,YD1,sv]|none=>
  rw[hfi]at hlk;simp only[Qu]at hlk;have hrm:¬D.room<=es.length:=by
   rcases hroom with h|h;.rw[hfi]at h;cases h
   .omega
  simp only[go_sem,↓da,ZE,Dz,hs,ht,hb,DR.cV,hg,hm,hw,hp,BV,ho,hu,hlk,hel,hnn,hr,he,hrm,n1,n2,n3,n4,n5,n6,n8,n10,n11,n12,n13,hus,hub,hup,Ww,Qs,sv]
end
structure vY(H:Heap)(p:Nat)(D:DR)(es:List (Nat×(Nat×Nat)))(us:List V):Prop where
 wf:H.wf
 hp:p<H.n
 hg:H.get p=D.cV
 hm:H.get D.m=.map (eR (iK es))vK:D.m<H.n
 BV:D.m≠p
 T6:(D.u=.aC/\us=[])\/∃ub n,D.u=.slice ub 0 n 0 3/\us.length=n*3/\0<n/\H.get ub=.cells us/\ub<H.n/\ub≠p/\ub≠D.m
 hl:nn D.len
 hr:nn D.room
 hf:nn D.aX
 he:es.length<9223372036854775808
theorem Heap.eS{H:Heap}{lo b:Nat}{x:eB}(h1:lo<=H.bF)(h2:lo<=b):lo<=(H.put b x).bF:=by
 by_cases h:H.wf/\b<H.n;.rw[Heap.CZ h.1 h.2];split<;>assumption
 .have e:H.put b x=H:=if_neg h;rw[e];exact h1
theorem Heap.rb{H:Heap}{lo:Nat}{x:eB}(h1:lo<=H.bF):lo<=(H.new x).bF:=h1
def DR.owns(D:DR)(p b:Nat):Prop:=b=p\/b=D.m\/∃o n c s,D.u=.slice b o n c s
def eI:List (Nat×(Nat×Nat))->Nat->(Nat×Nat)->List (Nat×(Nat×Nat))|[],a,v=>[(a,v)]|p::D,a,v=>if p.1=a then(p.1,v)::D else p::eI D a v
theorem GK:∀(D)(a)(v),De (iK D) a (sv v)=iK (eI D a v)
 |[],a,v=>rfl|p::D,a,v=>by
  have ih:=GK D a v;by_cases h:p.1=a;.simp[iK,De,eI,h]
  .simp only[iK,YN,De,eI,h,if_false];simp only[iK]at ih;rw[ih]
theorem lE:∀(D)(a)(v),(eI D a v).length=if(find D a).isSome=true then D.length else D.length+1
 |[],a,v=>rfl|p::D,a,v=>by
  have ih:=lE D a v;by_cases h:p.1=a
  .have hb:=by omega
   simp[eI,find,h]
  .have hb:=by omega
   have hf:find (p::D) a=find D a:=by simp[find,hb]
   rw[hf];simp only[eI,h,if_false,YG,ih];split<;>rfl
section
variable{cp:RC->au}{t:Nat->Option dr}{fuel d:Nat}{H:Heap}{k:K}
theorem Ui(T:TDisk t){p a x:Nat}{D:DR}{es:List (Nat×(Nat×Nat))}{us:List V}(h:vY H p D es us)(ho:D.off=false)(hf:D.aX≠1)(hub:us.length<3000000)(heb:es.length<1000000)(ha:a<D.len)(hroom:(find es a).isSome=true\/es.length<D.room):∃H' D',(∀(d:Nat)(k:K),aj (aT cp t fuel (d+3)) (.func 252 []) [.ptr p 0,.int 3 a,.str 32 x] H k=k (.int 3 0) H')/\vY H' p D' (eI es a (32,x)) (us++[.int 3 a,sv ((find es a).getD (0,0)),.bool (find es a).isSome])/\D'.m=D.m/\D'.len=D.len/\D'.room=D.room/\D'.aX=D.aX-1/\D'.off=false/\H.n<=H'.n/\(∀b,b<H.n->¬D.owns p b->H'.get b=H.get b/\¬D'.owns p b)/\(∀lo,lo<=H.bF->lo<=H.n->(∀b,D.owns p b->lo<=b)->lo<=H'.bF/\∀b,D'.owns p b->lo<=b):=by
 have hlen:=lE es a (32,x);have hle:(eI es a (32,x)).length<=es.length+1:=by rw[hlen];split<;>omega
 have hw:=h.wf;have hp:=h.hp;have vK:=h.vK;have hfb:nn (D.aX-1):=by have:=h.hf;unfold nn at*;omega
 have n1:=by omega
 have n2:¬p=H.n+1:=by omega
 have n3:=by omega
 have n4:¬D.m=H.n+1:=by omega
 have n5:p<H.n+1+1:=by omega
 have n6:D.m<H.n+1+1:=by omega
 have n7:¬p=D.m:=λe=>h.BV e.symm;have hv:De (iK es) a (.str 32 x)=iK (eI es a (32,x)):=GK es a (32,x);rcases h.T6 with⟨hu,rfl⟩|⟨ub,n,hu,hus,hn0,hub',hubn,hup,hum⟩
 .refine⟨_,{D with aX:=D.aX-1,u:=.slice (H.n+1) 0 1 0 3,off:=false},λd k=>J6 T hw hp h.hg h.hm vK h.BV ho hf h.hf h.hl h.hr h.he ha hroom hu,?_,rfl,rfl,rfl,rfl,rfl,?_,λb hb hno=>?_,λlo hlo hln hlO=>⟨?_,?_⟩⟩
  .refine⟨by simp only[Heap.bH,Heap.bd,hw],by simp only[Heap.aV,Heap.aO];omega,?_,?_,by simp only[Heap.aV,Heap.aO];exact n6,h.BV,YE ⟨H.n+1,1,rfl,rfl,by omega,?_,by simp only[Heap.aV,Heap.aO];omega,λe=>n2 e.symm,λe=>n4 e.symm⟩,h.hl,h.hr,hfb,by omega⟩;.simp only[Heap.aG,Heap.aF,Heap.bH,Heap.bd,Heap.aV,Heap.aO,hw,hp,n5,n6,n7,if_false,if_true,ho]
   .simp only[Heap.aG,Heap.aF,Heap.bH,Heap.bd,Heap.aV,Heap.aO,hw,hp,n5,n6,if_true,hv]
   .have e1:¬H.n+1=D.m:=λe=>n4 e.symm;have e2:¬H.n+1=p:=λe=>n2 e.symm;simp only[Heap.aG,Heap.aF,Heap.bH,Heap.bd,Heap.aV,Heap.aO,hw,hp,n5,n6,e1,e2,if_false,if_true,YJ]
  .simp only[Heap.aV,Heap.aO];omega
  .have e1:¬b=D.m:=λe=>hno (YE (YH e));have e2:¬b=p:=λe=>hno (YH e);have e3:¬b=H.n:=by omega
   have e4:¬b=H.n+1:=by omega
   refine⟨by simp only[Heap.aG,Heap.aF,Heap.bH,Heap.bd,Heap.aV,Heap.aO,hw,hp,n5,n6,e1,e2,e3,e4,if_false],?_⟩;rintro(e|e|⟨o,m,c,s,e⟩);.exact e2 e
   .exact e1 e
   .simp only[V.slice.injEq]at e;omega
  .exact Heap.eS (Heap.eS (Heap.rb (Heap.rb (Heap.eS hlo (hlO _ (YH rfl))))) (hlO _ (YH rfl))) (hlO _ (YE (YH rfl)))
  .rintro b(e|e|⟨o,m,c,s,e⟩);.exact hlO b (YH e)
   .exact hlO b (YE (YH e))
   .simp only[V.slice.injEq]at e;omega
 .have n8:=by omega
  have n9:=by omega
  have n10:ub<H.n+1:=by omega
  have n12:¬p=ub:=λe=>hup e.symm;have n13:¬D.m=ub:=λe=>hum e.symm;refine⟨_,{D with aX:=D.aX-1,u:=.slice (H.n+1) 0 (n+1) 0 3,off:=false},λd k=>GY T hw hp h.hg h.hm vK h.BV ho hf h.hf h.hl h.hr h.he ha hroom hu hus hn0 (by omega) hub' hubn hup hum,?_,rfl,rfl,rfl,rfl,rfl,?_,λb hb hno=>?_,λlo hlo hln hlO=>⟨?_,?_⟩⟩
  .refine⟨by simp only[Heap.bH,Heap.bd,hw],by simp only[Heap.aV,Heap.aO];omega,?_,?_,by simp only[Heap.aV,Heap.aO];exact n6,h.BV,YE ⟨H.n+1,n+1,rfl,by simp;omega,by omega,?_,by simp only[Heap.aV,Heap.aO];omega,λe=>n2 e.symm,λe=>n4 e.symm⟩,h.hl,h.hr,hfb,by omega⟩;.simp only[Heap.aG,Heap.aF,Heap.bH,Heap.bd,Heap.aV,Heap.aO,hw,hp,n5,n6,n7,n10,if_false,if_true,ho]
   .simp only[Heap.aG,Heap.aF,Heap.bH,Heap.bd,Heap.aV,Heap.aO,hw,hp,n5,n6,n10,if_true,hv]
   .have e1:¬H.n+1=D.m:=λe=>n4 e.symm;have e2:¬H.n+1=p:=λe=>n2 e.symm;simp only[Heap.aG,Heap.aF,Heap.bH,Heap.bd,Heap.aV,Heap.aO,hw,hp,n5,n6,n10,e1,e2,if_false,if_true]
  .simp only[Heap.aV,Heap.aO];omega
  .have e1:¬b=D.m:=λe=>hno (YE (YH e));have e2:¬b=p:=λe=>hno (YH e);have e3:¬b=H.n:=by omega
   have e4:¬b=H.n+1:=by omega
   have e5:¬b=ub:=λe=>hno (YE (YE ⟨0,n,0,3,by rw[hu,e]⟩));refine⟨by simp only[Heap.aG,Heap.aF,Heap.bH,Heap.bd,Heap.aV,Heap.aO,hw,hp,n5,n6,n10,e1,e2,e3,e4,e5,if_false],?_⟩;rintro(e|e|⟨o,m,c,s,e⟩);.exact e2 e
   .exact e1 e
   .simp only[V.slice.injEq]at e;omega
  .exact Heap.eS (Heap.eS (Heap.rb (Heap.eS (Heap.rb (Heap.eS hlo (hlO _ (YH rfl)))) (hlO _ (YE (YE ⟨0,n,0,3,hu⟩))))) (hlO _ (YH rfl))) (hlO _ (YE (YH rfl)))
  .rintro b(e|e|⟨o,m,c,s,e⟩);.exact hlO b (YH e)
   .exact hlO b (YE (YH e))
   .simp only[V.slice.injEq]at e;omega
structure TDisk2(t:Nat->Option dr):Prop extends TDisk t where flush:t 127=some (.code [s000] [.tmp s002] UQ)read:t 83=some (.code [s000,s001] [.tmp s004,.tmp s005] c83)len:t 44=some (.code [s000] [.tmp s002] c44)on:t 103=some (.code [s000] [.tmp s002] aay)
variable(T:TDisk2 t)
include T
theorem Sz{p}{D:DR}(hw:H.wf)(hp:p<H.n)(hg:H.get p=D.cV):aj (aT cp t fuel (d+1)) (.func 88 []) [.ptr p 0] H k=k (.int 3 D.len) H:=by rw[ay T.len rfl rfl];simp only[go_sem,c44,DR.cV,hg]
theorem VG{p}{D:DR}(hw:H.wf)(hp:p<H.n)(hg:H.get p=D.cV):aj (aT cp t fuel (d+2)) (.func 206 []) [.ptr p 0] H k=k (.bool (!D.off)) H:=by have hs:∀{k},aj (aT cp t fuel (d+1)) (.func 142 []) [.ptr p 0] H k=k (.int 3 (if D.off=true then 6 else 0)) H:=λ{k}=>ev T.toTDisk hw hp hg;rw[ay T.on rfl rfl];cases ho:D.off<;>rw[ho]at hs<;>simp only[YT,if_false,if_true]at hs<;>simp only[go_sem,aay,hs]
theorem IE{p}{D:DR}(hw:H.wf)(hp:p<H.n)(hg:H.get p=D.cV)(ho:D.off=false)(hf:D.aX≠1)(hfb:nn D.aX):aj (aT cp t fuel (d+3)) (.func 254 []) [.ptr p 0] H k=k (.int 3 0) (H.put p {D with aX:=D.aX-1,u:=.aC}.cV):=by
 have hs:∀{k},aj (aT cp t fuel (d+2)) (.func 142 []) [.ptr p 0] H k=k (.int 3 0) H:=λ{k}=>by rw[ev T.toTDisk hw hp hg,ho];rfl
 have hb:∀{k},aj (aT cp t fuel (d+2)) (.func 306 []) [.ptr p 0] H k=k (.int 3 0) (H.put p {D with aX:=D.aX-1}.cV):=λ{k}=>te T.toTDisk hw hp hg ho hf hfb;rw[ay T.flush rfl rfl];simp only[go_sem,UQ,hs,hb,DR.cV,hw,hp,ho]
set_option maxRecDepth 4000in theorem NT{p a}{D:DR}{es}(hw:H.wf)(hp:p<H.n)(hg:H.get p=D.cV)(hm:H.get D.m=.map (eR (iK es)))(ho:D.off=false)(hl:nn D.len)(ha:a<D.len):aj (aT cp t fuel (d+3)) (.func 166 []) [.ptr p 0,.int 3 a] H k=k (.cG [sv ((find es a).getD (32,0)),.int 3 0]) (if(find es a).isSome=true then H else H.new (.bytes 32 0)):=by
 have hs:∀{k},aj (aT cp t fuel (d+2)) (.func 142 []) [.ptr p 0] H k=k (.int 3 0) H:=λ{k}=>by rw[ev T.toTDisk hw hp hg,ho];rfl
 have ht:∀{k},aj (aT cp t fuel (d+2)) (.func 238 []) [.ptr p 0,.int 3 a] H k=k (.bool true) H:=λ{k}=>by rw[iR T.toTDisk hw hp hg hl (by unfold nn at hl;omega),decide_eq_true ha]
 have hlk:=mq es a;rw[ay T.read rfl rfl];cases hfi:find es a with|some q=>rw[hfi]at hlk;simp only[QE,sv]at hlk;simp only[go_sem,c83,hs,ht,DR.cV,hg,hm,ho,hlk,YU,YD1,sv]|none=>rw[hfi]at hlk;simp only[Qu]at hlk;simp only[go_sem,c83,hs,ht,DR.cV,hg,hm,hw,ho,hlk,Ww,Qs,sv]
end
section
variable{cp:RC->au}{t:Nat->Option dr}{fuel d:Nat}{k:K}
theorem xx{ph}{kx}{b off n c s}{f}{Hs:Nat->Heap}{row}(hn:n<9223372036854775808)(hrow:∀i,i<n->(Hs i).get b=.cells row)(hlen:off+n<=row.length)(hf:∀i v,i<n->row[off+i]?=some v->∀k:K,aj ph f [v] (Hs i) k=k (.bool false) (Hs (i+1))):∀(m i r)(e),i+m=n->m<r->af s000 e=.slice b off n c s->af s001 e=f->af s007 e=.int 3 n->af s010 e=.int 3 i->∀x:R,(∀e',kx 1 e' (Hs n)=x)->kf Bu fuel ph kx r e (Hs i)=x:=by
 have hnn:=n_ n;intro m;induction m with|zero=>
  intro i r e hi hr h0 h1 h7 h10 x hx;obtain⟨r,rfl⟩:=s_ r;have hi':i=n:=by omega
  subst hi';have hlt:¬i<i:=by omega
  rw[ak];simp only[go_sem,Bu,h7,h10,hnn,hlt];exact hx _|succ m ih=>
  intro i r e hi hr h0 h1 h7 h10 x hx;obtain⟨r,rfl⟩:=s_ r;have hlt:i<n:=by omega
  have hin:=n_ i;have hib:=l_ i;have hv:row[off+i]?=some row[off+i]:=YA (by omega);have hnth:∀{id}{k},nth id row (off+i) k=k row[off+i]:=iV hv;have hc:=hf i _ hlt hv;have hadd:=m_ (i+1);rw[ak];simp only[go_sem,Bu,h0,h1,h7,h10,hnn,hin,hlt,hib,hnth,hrow i hlt,hc,hadd];refine ih (i+1) r _ (by omega) (by omega) ?_ ?_ ?_ ?_ x hx<;>simp only[go_sem,h0,h1,h7]
theorem yT{b off n c s}{f}{Hs:Nat->Heap}{row}(h1:t 157=some (.code [s000,s001] [.tmp s004] UT))(h2:t 142=some (.code [s000,s001] [.tmp s004] US))(hn:n<9223372036854775808)(hfu:n<fuel)(hrow:∀i,i<n->(Hs i).get b=.cells row)(hlen:off+n<=row.length)(hf:∀i v,i<n->row[off+i]?=some v->∀k:K,aj (aT cp t fuel d) f [v] (Hs i) k=k (.bool false) (Hs (i+1))):aj (aT cp t fuel (d+2)) (.func 284 []) [.slice b off n c s,f] (Hs 0) k=k (.bool false) (Hs n):=by
 have hi:∀{k},aj (aT cp t fuel (d+1)) (.func 314 []) [.slice b off n c s,f] (Hs 0) k=k (.int 3 18446744073709551615) (Hs n):=λ{k}=>by rw[ay h1 rfl rfl];simp only[go_sem,UT,hn];refine xx (c:=c) (s:=s) hn hrow hlen hf n 0 fuel _ (by omega) hfu ?_ ?_ ?_ ?_ _ λe'=>?_<;>simp only[go_sem]
 have h5:(dW (.ge 9223372036854775808 18446744073709551616) 18446744073709551615 0=true)=False:=by rw[KA];simp
 rw[ay h2 rfl rfl];simp only[go_sem,US,hi,h5]
end
def tA(D:List (Nat×Nat)):List (Nat×V):=D.map λp=>(p.1,.int 3 p.2)
def Ew(D:List (Nat×Nat))(a:Nat):Option Nat:=(D.find? λp=>p.1==a).map (·.2)
def sJ:List (Nat×Nat)->Nat->Nat->List (Nat×Nat)|[],a,v=>[(a,v)]|p::D,a,v=>if p.1=a then(p.1,v)::D else p::sJ D a v
theorem Fj:∀(D)(a),Vu (tA D) a=(Ew D a).map (V.int 3)|[],a=>rfl|p::D,a=>by have ih:=Fj D a;unfold Vu Ew tA at*;simp only[YN,Qt];cases h:p.1==a with|true=>rfl|false=>omega
theorem yA:∀(D)(a v),De (tA D) a (.int 3 v)=tA (sJ D a v)
 |[],a,v=>rfl|p::D,a,v=>by
  have ih:=yA D a v;by_cases h:p.1=a;.simp[tA,De,sJ,h]
  .simp only[tA,YN,De,sJ,h,if_false];simp only[tA]at ih;rw[ih]
def wL(D:List (Nat×Nat))(a:Nat):List (Nat×Nat):=sJ D a (((Ew D a).getD 0+1)%18446744073709551616)
section
variable{cp:RC->au}{t:Nat->Option dr}{fuel d:Nat}{H:Heap}{k:K}
structure TDisk3(t:Nat->Option dr):Prop extends TDisk2 t where fits:t 112=some (.code [s000,s001] [.tmp s004] L7)fits1:t 141=some (.code [s000,s001,s002] [.tmp s004] PB)index:t 157=some (.code [s000,s001] [.tmp s004] UT)contains:t 142=some (.code [s000,s001] [.tmp s004] US)
variable(T:TDisk3 t)
include T
set_option maxRecDepth 4000in theorem IB{p a B0 B1 M}{D:DR}{es:List (Nat×(Nat×Nat))}{fr:List (Nat×Nat)}(hw:H.wf)(hp:p<H.n)(hg:H.get p=D.cV)(hm:H.get D.m=.map (eR (iK es)))(h0:H.get B0=.cells [.ptr p 0])(h1:H.get B1=.cells [.map M])(hM:H.get M=.map (eR (tA fr)))(hMn:M<H.n)(hd0:p≠M)(hd1:D.m≠M)(hd2:B0≠M)(hd3:B1≠M)(hl:nn D.len)(ha:a<18446744073709551616):aj (aT cp t fuel (d+2)) (.func 282 [.ptr B0 0,.ptr B1 0]) [.int 3 a] H k=k (.bool (!decide (a<D.len))) (if(find es a).isSome=true then H else H.put M (.map (eR (tA (wL fr a))))):=by have ht:∀{k},aj (aT cp t fuel (d+1)) (.func 238 []) [.ptr p 0,.int 3 a] H k=k (.bool (decide (a<D.len))) H:=λ{k}=>iR T.toTDisk hw hp hg hl ha;have ht2:∀{x}{k},aj (aT cp t fuel (d+1)) (.func 238 []) [.ptr p 0,.int 3 a] (H.put M x) k=k (.bool (decide (a<D.len))) (H.put M x):=λ{x k}=>iR T.toTDisk (by rw[Heap.bH];omega) (by rw[Heap.aV];omega) (by rw[Heap.aG hw hMn,if_neg hd0];omega) hl ha;have hlk:=mq es a;have hlc:=Fj fr a;rw[ay T.fits1 rfl rfl];cases hfi:find es a with|some q=>rw[hfi]at hlk;simp only[QE,sv]at hlk;simp only[go_sem,PB,ht,DR.cV,hg,hm,hw,h0,h1,hlk,YD1]|none=>rw[hfi]at hlk;simp only[Qu]at hlk;cases hfc:Ew fr a with|some q=>rw[hfc]at hlc;simp only[QE]at hlc;have hu:=yA fr a ((q+1)%18446744073709551616);simp only[go_sem,PB,ht2,DR.cV,hg,hm,hw,h0,h1,hM,hMn,hd2,hlk,hlc,hu,wL,hfc,Qs,YU]|none=>rw[hfc]at hlc;simp only[Qu]at hlc;have hu:=yA fr a 1;simp only[go_sem,PB,ht2,DR.cV,hg,hm,hw,h0,h1,hM,hMn,hd2,hlk,hlc,hu,wL,hfc,Qs,Ww]
omit T in def vG(es:List (Nat×(Nat×Nat)))(ns:List Nat):Nat->List (Nat×Nat)|0=>[]|i+1=>if(find es (ns.getD i 0)).isSome=true then vG es ns i else wL (vG es ns i) (ns.getD i 0)
noncomputable def BO(es:List (Nat×(Nat×Nat)))(ns:List Nat)(G:Heap)(M:Nat):Nat->Heap|0=>G|i+1=>if(find es (ns.getD i 0)).isSome=true then BO es ns G M i else(BO es ns G M i).put M (.map (eR (tA (vG es ns (i+1)))))
omit T in theorem Sh{es}{ns}{G}{M}(hw:G.wf)(hM:M<G.n)(h0:G.get M=.map []):∀i,(BO es ns G M i).wf/\(BO es ns G M i).n=G.n/\(BO es ns G M i).get M=.map (eR (tA (vG es ns i)))/\∀b,b≠M->(BO es ns G M i).get b=G.get b
 |0=>⟨hw,rfl,h0,λ_ _=>rfl⟩|i+1=>by
  obtain⟨g1,g2,g3,g4⟩:=Sh hw hM h0 i;simp only[BO];by_cases h:(find es (ns.getD i 0)).isSome=true;.simp only[if_pos h,vG];exact⟨g1,g2,g3,g4⟩
  .rw[if_neg h];have hn:M<(BO es ns G M i).n:=by omega
   exact⟨by rw[Heap.bH];omega,by rw[Heap.aV];omega,by rw[Heap.aG g1 hn,if_pos rfl],λb hb=>by rw[Heap.aG g1 hn,if_neg hb];simp_all⟩
omit T in theorem uM:∀(D)(a v),(sJ D a v).length<=D.length+1|[],a,v=>by simp[sJ]|p::D,a,v=>by have:=uM D a v;simp only[sJ];split<;>simp<;>omega
omit T in theorem xr{es}{ns}:∀i,(vG es ns i).length<=i
 |0=>YC _|i+1=>by
  have:=xr (es:=es) (ns:=ns) i;simp only[vG];split;.omega
  .have:=uM (vG es ns i) (ns.getD i 0) (((Ew (vG es ns i) (ns.getD i 0)).getD 0+1)%18446744073709551616);unfold wL;omega
omit T in theorem Iz{es}{ns}{G}{M lo}(h1:lo<=G.bF)(h2:lo<=M):∀i,lo<=(BO es ns G M i).bF
 |0=>h1|i+1=>by
  simp only[BO];split;.exact Iz h1 h2 i
  .exact Heap.eS (Iz h1 h2 i) h2
set_option maxRecDepth 4000in theorem MX{p b off c s:Nat}{D:DR}{es:List (Nat×(Nat×Nat))}{ns:List Nat}{row:List V}(hw:H.wf)(hp:p<H.n)(hg:H.get p=D.cV)(hm:H.get D.m=.map (eR (iK es)))(vK:D.m<H.n)(hb:H.get b=.cells row)(hbn:b<H.n)(ho:D.off=false)(hl:nn D.len)(hr:nn D.room)(hlen:off+ns.length<=row.length)(hrow:∀i v,ns[i]?=some v->row[off+i]?=some (.int 3 v))(hns:∀v∈ns,v<D.len)(hnb:ns.length<1000000)(heb:es.length<1000000)(hfu:ns.length<fuel):∃H',(∀(d:Nat)(k:K),aj (aT cp t fuel (d+5)) (.func 224 []) [.ptr p 0,.slice b off ns.length c s] H k=k (.bool (decide ((vG es ns ns.length).length=0\/es.length+(vG es ns ns.length).length<=D.room))) H')/\H'.wf/\H.n<=H'.n/\(∀j,j<H.n->H'.get j=H.get j)/\∀lo,lo<=H.bF->lo<=H.n->lo<=H'.bF:=by
 have n1:¬p=H.n:=by omega
 have n2:¬p=H.n+1:=by omega
 have n3:=by omega
 have n4:¬D.m=H.n+1:=by omega
 have n5:=by omega
 have n6:=by omega
 have n7:=by omega
 have n8:¬b=H.n+1:=by omega
 have n9:=by omega
 have m1:¬H.n=H.n+1:=by omega
 have m2:¬H.n=H.n+1+1:=by omega
 have m3:¬H.n+1=H.n+1+1:=by omega
 have m4:¬H.n+1+1=H.n+1:=by omega
 have m5:¬H.n+1+1=H.n:=by omega
 have m6:H.n+1+1<H.n+1+1+1:=by omega
 have m7:¬H.n+1=H.n:=by omega
 generalize hG:(((H.new (.cells [.ptr p 0])).new (.map [])).new (.cells [.ve])).put (H.n+1+1) (.cells [.map (H.n+1)])=G;have gw:G.wf:=by rw[<-hG];simp only[Heap.bH,Heap.bd,hw]
 have gn:G.n=H.n+1+1+1:=by rw[<-hG];simp only[Heap.aV,Heap.aO]
 have gM:G.get (H.n+1)=.map []:=by rw[<-hG];simp only[Heap.aG,Heap.aF,Heap.bd,Heap.aO,hw,m6,m3,m7,if_false,if_true]
 have g0:G.get H.n=.cells [.ptr p 0]:=by rw[<-hG];simp only[Heap.aG,Heap.aF,Heap.bd,Heap.aO,hw,m6,m1,m2,if_false,if_true]
 have g1:G.get (H.n+1+1)=.cells [.map (H.n+1)]:=by rw[<-hG];simp only[Heap.aG,Heap.aF,Heap.bd,Heap.aO,hw,m6,if_true]
 have gold:∀j,j<H.n->G.get j=H.get j:=λj hj=>by
  have e1:¬j=H.n:=by omega
  have e2:¬j=H.n+1:=by omega
  have e3:¬j=H.n+1+1:=by omega
  rw[<-hG];simp only[Heap.aG,Heap.aF,Heap.bd,Heap.aO,hw,m6,e1,e2,e3,if_false]
 have hF:=Sh (es:=es) (ns:=ns) gw (by rw[gn];omega) gM;obtain⟨f1,f2,f3,f4⟩:=hF ns.length;have hlF:=xr (es:=es) (ns:=ns) ns.length;have hc:∀{d}{k},aj (aT cp t fuel (d+4)) (.func 284 []) [.slice b off ns.length c s,.func 282 [.ptr H.n 0,.ptr (H.n+1+1) 0]] G k=k (.bool false) (BO es ns G (H.n+1) ns.length):=λ{d k}=>by
  refine yT (Hs:=BO es ns G (H.n+1)) T.index T.contains (by omega) hfu (λi hi=>?_) hlen (λi v hi hv k=>?_);.rw[(hF i).2.2.2 b n8,gold b hbn];exact hb
  .obtain⟨q1,q2,q3,q4⟩:=hF i;have hvi:ns[i]?=some ns[i]:=YA hi;have hvn:ns.getD i 0=ns[i]:=by rw[List.getD_eq_getElem?_getD,hvi];rfl
   have hv':=hrow i _ hvi;rw[hv]at hv';cases hv';have hlt:=hns _ (List.getElem_mem hi);rw[IB T q1 (by rw[q2,gn];omega) (by rw[q4 p n2,gold p hp];exact hg) (by rw[q4 D.m n4,gold D.m vK];exact hm) (by rw[q4 _ m1];exact g0) (by rw[q4 _ m4];exact g1) q3 (by rw[q2,gn];omega) n2 n4 m1 m4 hl (by unfold nn at hl;omega)];rw[decide_eq_true hlt];simp only[BO,vG,hvn,Bool.not_true];by_cases h:(find es ns[i]).isSome=true;.rw[if_pos h,if_pos h]
   .rw[if_neg h,if_neg h,if_neg h]
 have hs:∀{d}{k},aj (aT cp t fuel (d+4)) (.func 142 []) [.ptr p 0] (H.new (.cells [.ptr p 0])) k=k (.int 3 0) (H.new (.cells [.ptr p 0])):=λ{d k}=>by rw[ev T.toTDisk (by simp only[Heap.bd,hw]) (by simp only[Heap.aO];omega) (by rw[Heap.aF hw,if_neg n1];exact hg),ho];rfl
 generalize hFn:(vG es ns ns.length).length=F at hlF;have hFl:(eR (tA (vG es ns ns.length))).length=F:=by simp only[eR,tA,List.length_map,hFn]
 have hel:(eR (iK es)).length=es.length:=by simp[eR,iK]
 have hFnn:=n_ F;have hFb:=l_ F;have heb':=l_ es.length;have hp':(BO es ns G (H.n+1) ns.length).get p=D.cV:=by rw[f4 p n2,gold p hp];exact hg
 have hm':(BO es ns G (H.n+1) ns.length).get D.m=.map (eR (iK es)):=by rw[f4 _ n4,gold _ vK];exact hm
 have h0':(BO es ns G (H.n+1) ns.length).get H.n=.cells [.ptr p 0]:=by rw[f4 _ m1];exact g0
 have h1':(BO es ns G (H.n+1) ns.length).get (H.n+1+1)=.cells [.map (H.n+1)]:=by rw[f4 _ m4];exact g1
 refine⟨BO es ns G (H.n+1) ns.length,λd k=>?_,f1,by rw[f2,gn];omega,λj hj=>by rw[f4 j (by omega),gold j hj],λlo h1 h2=>Iz (by rw[<-hG];exact Heap.eS (Heap.rb (Heap.rb (Heap.rb h1))) (by omega)) (by omega) _⟩;rw[ay T.fits rfl rfl];generalize BO es ns G (H.n+1) ns.length=G' at*;by_cases hz:F=0;.simp only[go_sem,ZE,L7,hs,hw,m6,hG,hc,h1',f3,hFl,hz,decide_true,true_or]
 .by_cases hle:es.length<=D.room
  .have e1:nn (D.room-es.length):=by unfold nn at*;omega
   have e2:(F<=D.room-es.length)=(es.length+F<=D.room):=propext ⟨λh=>by omega,λh=>by omega⟩;by_cases hh:es.length+F<=D.room;.simp only[go_sem,ZE,L7,hs,hw,m6,hG,hc,h1',h0',f3,hp',hm',DR.cV,hFl,hFb,hel,heb',hFnn,hz,hle,hr,e1,e2,hh,decide_true,false_or]
   .simp only[go_sem,ZE,L7,hs,hw,m6,hG,hc,h1',h0',f3,hp',hm',DR.cV,hFl,hFb,hel,heb',hFnn,hz,hle,hr,e1,e2,hh,decide_false,false_or]
  .have hh:¬es.length+F<=D.room:=by omega
   have e3:(dW (.le 9223372036854775808 18446744073709551616) F ((D.room+(18446744073709551616-es.length))%18446744073709551616)=true)=False:=by rw[DX];unfold nn at hr;exact propext ⟨λh=>by omega,False.elim⟩
   simp only[go_sem,ZE,L7,hs,hw,m6,hG,hc,h1',h0',f3,hp',hm',DR.cV,hFl,hFb,hel,heb',hz,hh,e3,decide_false,false_or]
end
section
variable{cp:RC->au}{t:Nat->Option dr}{fuel d:Nat}{H:Heap}{k:K}
abbrev aP(t:Nat->Option dr):Prop:=t=t
structure jA(t:Nat->Option dr):Prop extends TDisk3 t where new:t 19=some (.code [s000,s001] [.tmp s004] c19)
variable(T:jA t)
include T
theorem SN{n r}(hw:H.wf)(h1:1<=n)(h2:n<=1024)(hr:nn r):aj (aT cp t fuel (d+1)) (.func 38 []) [.int 3 n,.int 3 r] H k=k (.ptr (H.n+1) 0) ((H.new (.map [])).new (DR.mk H.n .aC n r 0 false).cV):=by
 have h5:nn 0:=by unfold nn;simp
 have h6:nn 1:=by unfold nn;simp
 have h7:nn 1024:=by unfold nn;simp
 have h8:=n_ n;have e1:¬n<1:=by omega
 have e2:¬1024<n:=by omega
 have e3:¬r<0:=by omega
 rw[ay T.new rfl rfl];simp only[go_sem,c19,DR.cV,hw,hr,h5,h6,h7,h8,e1,e2,e3]
end
abbrev Tx:=Nat×Nat
structure AD where
 len:Nat
 room:Nat
 aX:Nat
 off:Bool
 es:List (Nat×Tx)us:List (Nat×Tx×Bool)
def RT(u:Nat×Tx×Bool):List V:=[.int 3 u.1,sv u.2.1,.bool u.2.2]
def MQ(us:List (Nat×Tx×Bool)):List V:=us.flatMap RT
theorem En(us):(MQ us).length=us.length*3:=by induction us with|nil=>rfl|cons u us ih=>simp only[MQ,WZ,YB,YG]at ih⊢;simp only[RT,YG,YQ];omega
def cN(H:Heap)(p:Nat)(A:AD)(O:Nat->Prop):Prop:=∃D:DR,vY H p D A.es (MQ A.us)/\D.len=A.len/\D.room=A.room/\D.aX=A.aX/\D.off=A.off/\O=D.owns p
structure Step(H:Heap)(O:Nat->Prop)(H':Heap)(O':Nat->Prop):Prop where
 wf:H'.wf
 n:H.n<=H'.n
 same:∀b,b<H.n->¬O b->H'.get b=H.get b/\¬O' b
 lo:∀lo,lo<=H.bF->lo<=H.n->(∀b,O b->lo<=b)->lo<=H'.bF/\∀b,O' b->lo<=b
theorem Step.refl{H:Heap}{O:Nat->Prop}(h:H.wf):Step H O H O:=⟨h,YC _,λ_ _ h=>⟨rfl,h⟩,λ_ h _ h'=>⟨h,h'⟩⟩
theorem Step.trans{H H1 H2:Heap}{O O1 O2:Nat->Prop}(h:Step H O H1 O1)(g:Step H1 O1 H2 O2):Step H O H2 O2:=⟨g.wf,Ys h.n g.n,λb hb ho=>let⟨e,o⟩:=h.same b hb ho;let⟨e',o'⟩:=g.same b (YF hb h.n) o;⟨e'.trans e,o'⟩,λlo h1 h2 h3=>let⟨e,o⟩:=h.lo lo h1 h2 h3;g.lo lo e (Ys h2 h.n) o⟩
structure ah(H H':Heap):Prop where
 wf:H'.wf
 n:H.n<=H'.n
 same:∀b,b<H.n->H'.get b=H.get b
 lo:∀lo,lo<=H.bF->lo<=H.n->lo<=H'.bF
theorem ah.refl{H:Heap}(h:H.wf):ah H H:=⟨h,YC _,λ_ _=>rfl,λ_ h _=>h⟩
theorem ah.trans{H H1 H2:Heap}(h:ah H H1)(g:ah H1 H2):ah H H2:=⟨g.wf,Ys h.n g.n,λb hb=>(g.same b (YF hb h.n)).trans (h.same b hb),λlo h1 h2=>g.lo lo (h.lo lo h1 h2) (Ys h2 h.n)⟩
theorem ah.new{H:Heap}{x:eB}(h:H.wf):ah H (H.new x):=⟨by rw[Heap.bd];exact h,by rw[Heap.aO];omega,λb hb=>by rw[Heap.aF h,if_neg (by omega)],λ_ h _=>h⟩
theorem ah.put{H H1:Heap}{b:Nat}{x:eB}(h:ah H H1)(h1:H.n<=b)(h2:b<H1.n):ah H (H1.put b x):=⟨by rw[Heap.bH];exact h.wf,by rw[Heap.aV];exact h.n,λj hj=>by rw[Heap.aG h.wf h2,if_neg (by omega)];exact h.same j hj,λlo h3 h4=>Heap.eS (h.lo lo h3 h4) (by omega)⟩
theorem ah.step{H H':Heap}{O:Nat->Prop}(h:ah H H'):Step H O H' O:=⟨h.wf,h.n,λb hb ho=>⟨h.same b hb,ho⟩,λlo h1 h2 h3=>⟨h.lo lo h1 h2,h3⟩⟩
theorem cN.wf{H:Heap}{p:Nat}{A:AD}{O:Nat->Prop}(h:cN H p A O):H.wf:=let⟨_,h,_⟩:=h;h.wf
theorem cN.lt{H:Heap}{p:Nat}{A:AD}{O:Nat->Prop}(h:cN H p A O):∀b,O b->b<H.n:=by
 obtain⟨D,h,_,_,_,_,rfl⟩:=h;rintro b(e|e|⟨o,m,c,s,e⟩);.rw[e];exact h.hp
 .rw[e];exact h.vK
 .rcases h.T6 with⟨hu,_⟩|⟨ub,n,hu,_,_,_,hub,_⟩;.rw[hu]at e;cases e
  .rw[hu]at e;cases e;exact hub
theorem cN.cm{H H':Heap}{p:Nat}{A:AD}{O Q Q':Nat->Prop}(h:cN H p A O)(s:Step H Q H' Q')(hd:∀b,O b->¬Q b):cN H' p A O/\∀b,O b->¬Q' b:=by
 refine⟨?_,λb hb=>(s.same b (h.lt b hb) (hd b hb)).2⟩;obtain⟨D,h,h1,h2,h3,h4,rfl⟩:=h;refine⟨D,⟨s.wf,YF h.hp s.n,?_,?_,YF h.vK s.n,h.BV,?_,h.hl,h.hr,h.hf,h.he⟩,h1,h2,h3,h4,rfl⟩;.rw[(s.same p h.hp (hd p (YH rfl))).1];exact h.hg
 .rw[(s.same _ h.vK (hd _ (YE (YH rfl)))).1];exact h.hm
 .rcases h.T6 with hu|⟨ub,n,hu,g1,g2,g3,g4,g5⟩;.exact YH hu
  .exact YE ⟨ub,n,hu,g1,g2,by rw[(s.same ub g4 (hd ub (YE (YE ⟨_,_,_,_,hu⟩)))).1];exact g3,YF g4 s.n,g5⟩
theorem cN.fresh{H H':Heap}{p:Nat}{A:AD}{O:Nat->Prop}(h:cN H p A O)(s:ah H H'):cN H' p A O:=(h.cm (Q:=λ_=>False) (s.step) λ_ _ h=>h).1
theorem cN.own{H:Heap}{p:Nat}{A:AD}{O:Nat->Prop}(h:cN H p A O):O p:=by obtain⟨D,h,_,_,_,_,rfl⟩:=h;exact YH rfl
def AD.MG(A:AD):AD:={A with aX:=0,off:=true}
def AD.write(A:AD)(a:Nat)(x:Nat):AD×Nat:=if A.aX=1then(A.MG,6)else({A with aX:=A.aX-1,us:=A.us++[(a,(find A.es a).getD (0,0),(find A.es a).isSome)],es:=eI A.es a (32,x)},0)
def AD.flush(A:AD):AD×Nat:=if A.aX=1then(A.MG,6)else({A with aX:=A.aX-1,us:=[]},0)
def AD.read(A:AD)(a:Nat):Tx:=(find A.es a).getD (32,0)
section
variable{cp:RC->au}{t:Nat->Option dr}{fuel:Nat}{H:Heap}
theorem Dy(T:jA t){p d}{D:DR}{k}(hw:H.wf)(hp:p<H.n)(hg:H.get p=D.cV)(hf:D.aX=1):aj (aT cp t fuel (d+2)) (.func 306 []) [.ptr p 0] H k=k (.int 3 6) (H.put p {D with aX:=0,off:=true}.cV):=by
 have h5:nn 0:=by unfold nn;simp
 have hs:∀{k},aj (aT cp t fuel (d+1)) (.func 142 []) [.ptr p 0] (H.put p {D with aX:=0,off:=true}.cV) k=k (.int 3 6) (H.put p {D with aX:=0,off:=true}.cV):=λ{k}=>by rw[ev T.toTDisk (by rw[Heap.bH];omega) (by rw[Heap.aV];omega) (by rw[Heap.aG hw hp,if_pos rfl])];rfl
 have ho:∀{x}{k},x={D with aX:=0}.cV->aj (aT cp t fuel (d+1)) (.func 52 []) [.ptr p 0] (H.put p x) k=k (.cG []) (H.put p {D with aX:=0,off:=true}.cV):=λ{x k}hx=>by rw[SU T.toTDisk (by rw[Heap.bH];omega) (by rw[Heap.aV];omega) (by rw[Heap.aG hw hp,if_pos rfl];omega),Heap.iX]
 have ho':=λ{k}=>ho (k:=k) rfl;simp only[DR.cV]at hs ho';rw[ay T.aaw rfl rfl];have h4:max 0 0=0:=rfl;simp only[go_sem,PC,DR.cV,hg,hw,hp,hf,h4,h5,hs,ho']
theorem Oy(T:jA t){p d a x}{D:DR}{es}{k}(hw:H.wf)(hp:p<H.n)(hg:H.get p=D.cV)(hm:H.get D.m=.map (eR (iK es)))(vK:D.m<H.n)(BV:D.m≠p)(ho:D.off=false)(hf:D.aX=1)(hl:nn D.len)(hr:nn D.room)(he:es.length<9223372036854775808)(ha:a<D.len)(hroom:(find es a).isSome=true\/es.length<D.room):aj (aT cp t fuel (d+3)) (.func 252 []) [.ptr p 0,.int 3 a,.str 32 x] H k=k (.int 3 6) (H.put p {D with aX:=0,off:=true}.cV):=by
 have hs:∀{k},aj (aT cp t fuel (d+2)) (.func 142 []) [.ptr p 0] H k=k (.int 3 0) H:=λ{k}=>by rw[ev T.toTDisk hw hp hg,ho];rfl
 have ht:∀{k},aj (aT cp t fuel (d+2)) (.func 238 []) [.ptr p 0,.int 3 a] H k=k (.bool true) H:=λ{k}=>by rw[iR T.toTDisk hw hp hg hl (by unfold nn at hl;omega),decide_eq_true ha]
 have hb:∀{k},aj (aT cp t fuel (d+2)) (.func 306 []) [.ptr p 0] H k=k (.int 3 6) (H.put p {D with aX:=0,off:=true}.cV):=λ{k}=>Dy T hw hp hg hf;rw[ay T.write rfl rfl];have hlk:=mq es a;have hel:(eR (iK es)).length=es.length:=by simp[eR,iK]
 have hnn:=n_ es.length;cases hfi:find es a with|some q=>rw[hfi]at hlk;simp only[QE,sv]at hlk;simp only[go_sem,ZE,Dz,hs,ht,hb,DR.cV,hg,hm,ho,hlk]|none=>
  rw[hfi]at hlk;simp only[Qu]at hlk;have hrm:¬D.room<=es.length:=by
   rcases hroom with h|h;.rw[hfi]at h;cases h
   omega
  simp only[go_sem,ZE,Dz,hs,ht,hb,DR.cV,hg,hm,ho,hlk,hel,hnn,hr,he,hrm]
theorem M8(T:jA t){p d}{D:DR}{k}(hw:H.wf)(hp:p<H.n)(hg:H.get p=D.cV)(ho:D.off=false)(hf:D.aX=1):aj (aT cp t fuel (d+3)) (.func 254 []) [.ptr p 0] H k=k (.int 3 6) (H.put p {D with aX:=0,off:=true}.cV):=by
 have hs:∀{k},aj (aT cp t fuel (d+2)) (.func 142 []) [.ptr p 0] H k=k (.int 3 0) H:=λ{k}=>by rw[ev T.toTDisk hw hp hg,ho];rfl
 have hb:∀{k},aj (aT cp t fuel (d+2)) (.func 306 []) [.ptr p 0] H k=k (.int 3 6) (H.put p {D with aX:=0,off:=true}.cV):=λ{k}=>Dy T hw hp hg hf;rw[ay T.flush rfl rfl];simp only[go_sem,UQ,hs,hb,DR.cV]
theorem cN.put{p:Nat}{D:DR}{es:List (Nat×Tx)}{us:List V}(h:vY H p D es us){r f:Nat}{o:Bool}(hr:nn r)(hf:nn f):vY (H.put p {D with room:=r,aX:=f,off:=o}.cV) p {D with room:=r,aX:=f,off:=o} es us/\Step H (D.owns p) (H.put p {D with room:=r,aX:=f,off:=o}.cV) (D.owns p):=by
 have hw:=h.wf;have hp:=h.hp;have e1:∀b,b≠p->(H.put p {D with room:=r,aX:=f,off:=o}.cV).get b=H.get b:=λb hb=>by rw[Heap.aG hw hp,if_neg hb]
 refine⟨⟨by rw[Heap.bH];exact hw,by rw[Heap.aV];exact hp,by rw[Heap.aG hw hp,if_pos rfl],(e1 _ h.BV).trans h.hm,by rw[Heap.aV];exact h.vK,h.BV,?_,h.hl,hr,hf,h.he⟩,by rw[Heap.bH];exact hw,by rw[Heap.aV];exact YC _,λb hb ho=>⟨e1 b λe=>ho (YH e),ho⟩,λlo h1 h2 h3=>⟨Heap.eS h1 (h3 p (YH rfl)),h3⟩⟩;rcases h.T6 with hu|⟨ub,n,hu,g1,g2,g3,g4,g5,g6⟩;.exact YH hu
 .exact YE ⟨ub,n,hu,g1,g2,(e1 ub g5).trans g3,by rw[Heap.aV];exact g4,g5,g6⟩
theorem J4(T:jA t){p a x:Nat}{A:AD}{O:Nat->Prop}(h:cN H p A O)(ho:A.off=false)(hub:A.us.length<100000)(heb:A.es.length<1000000)(ha:a<A.len)(hroom:(find A.es a).isSome=true\/A.es.length<A.room):∃H' O',(∀(d:Nat)(k:K),aj (aT cp t fuel (d+3)) (.func 252 []) [.ptr p 0,.int 3 a,.str 32 x] H k=k (.int 3 (A.write a x).2) H')/\cN H' p (A.write a x).1 O'/\Step H O H' O':=by
 obtain⟨D,h,h1,h2,h3,h4,rfl⟩:=h;by_cases hf:A.aX=1
 .obtain⟨g1,g2⟩:=cN.put h (f:=0) (o:=true) h.hr (by unfold nn;omega);refine⟨_,DR.owns D p,λd k=>?_,⟨{D with aX:=0,off:=true},?_,?_⟩,g2⟩;.rw[Oy T h.wf h.hp h.hg h.hm h.vK h.BV (h4.trans ho) (h3.trans hf) h.hl h.hr h.he (by omega) (by simp_all)];simp only[AD.write,if_pos hf]
  .simp only[AD.write,if_pos hf,AD.MG];omega
  .rw[show(A.write a x).1=A.MG by simp only[AD.write,if_pos hf]];exact⟨h1,h2,rfl,rfl,rfl⟩
 .obtain⟨H',D',g1,g2,g3,g4,g5,g6,g7,g8,g9,g10⟩:=Ui T.toTDisk (a:=a) h (h4.trans ho) (by omega) (by rw[En];omega) heb (by omega) (by simp_all);refine⟨H',D'.owns p,λd k=>?_,⟨D',?_,?_⟩,g2.wf,g8,g9,g10⟩;.rw[g1];simp only[AD.write,if_neg hf]
  .simp only[AD.write,if_neg hf];have:MQ (A.us++[(a,(find A.es a).getD (0,0),(find A.es a).isSome)])=MQ A.us++[.int 3 a,sv ((find A.es a).getD (0,0)),.bool (find A.es a).isSome]:=by simp only[MQ,Ws,WZ,List.flatMap_nil,YV,RT]
   simp_all
  .simp only[AD.write,if_neg hf];simp_all
theorem M1(T:jA t){p:Nat}{A:AD}{O:Nat->Prop}(h:cN H p A O)(ho:A.off=false):∃H' O',(∀(d:Nat)(k:K),aj (aT cp t fuel (d+3)) (.func 254 []) [.ptr p 0] H k=k (.int 3 A.flush.2) H')/\cN H' p A.flush.1 O'/\Step H O H' O':=by
 obtain⟨D,h,h1,h2,h3,h4,rfl⟩:=h;have hw:=h.wf;have hp:=h.hp;by_cases hf:A.aX=1
 .obtain⟨g1,g2⟩:=cN.put h (f:=0) (o:=true) h.hr (by unfold nn;omega);refine⟨_,DR.owns D p,λd k=>?_,⟨{D with aX:=0,off:=true},?_,?_⟩,g2⟩;.rw[M8 T h.wf h.hp h.hg (h4.trans ho) (h3.trans hf)];simp only[AD.flush,if_pos hf]
  .simp only[AD.flush,if_pos hf,AD.MG];omega
  .rw[show A.flush.1=A.MG by simp only[AD.flush,if_pos hf]];exact⟨h1,h2,rfl,rfl,rfl⟩
 .have e1:∀b,b≠p->(H.put p {D with aX:=D.aX-1,u:=.aC}.cV).get b=H.get b:=λb hb=>by rw[Heap.aG hw hp,if_neg hb]
  refine⟨H.put p (DR.cV {D with aX:=D.aX-1,u:=.aC}),DR.owns {D with aX:=D.aX-1,u:=.aC} p,λd k=>?_,⟨{D with aX:=D.aX-1,u:=.aC},?_,?_⟩,?_⟩;.rw[IE T.toTDisk2 hw hp h.hg (h4.trans ho) (by omega) h.hf];simp only[AD.flush,if_neg hf]
  .simp only[AD.flush,if_neg hf];exact⟨by rw[Heap.bH];omega,by rw[Heap.aV];omega,by rw[Heap.aG hw hp,if_pos rfl],(e1 _ h.BV).trans h.hm,by rw[Heap.aV];exact h.vK,h.BV,YH ⟨rfl,rfl⟩,h.hl,h.hr,by have:=h.hf;unfold nn at*;show D.aX-1<_;omega,h.he⟩
  .simp only[AD.flush,if_neg hf];simp_all
  .refine⟨by rw[Heap.bH];omega,by rw[Heap.aV];simp,λb hb hno=>⟨e1 b λe=>hno (YH e),?_⟩,λlo h1 h2 h3=>⟨Heap.eS h1 (h3 p (YH rfl)),?_⟩⟩
   .rintro(e|e|⟨o,m,c,s,e⟩);.exact hno (YH e)
    .exact hno (YE (YH e))
    simp_all
   .rintro b(e|e|⟨o,m,c,s,e⟩);.exact h3 b (YH e)
    .exact h3 b (YE (YH e))
    simp_all
theorem pD(T:jA t){p a}{A}{O}(h:cN H p A O)(ho:A.off=false)(ha:a<A.len):∃H',(∀(d)(k),aj (aT cp t fuel (d+3)) (.func 166 []) [.ptr p 0,.int 3 a] H k=k (.cG [sv (A.read a),.int 3 0]) H')/\ah H H':=by
 obtain⟨D,h,h1,h2,h3,h4,rfl⟩:=h;refine⟨_,λd k=>NT T.toTDisk2 h.wf h.hp h.hg h.hm (h4.trans ho) h.hl (by omega),?_⟩;split;.exact ah.refl h.wf
 .exact ah.new h.wf
theorem Jb(T:jA t){p d}{k}{A}{O}(h:cN H p A O):aj (aT cp t fuel (d+2)) (.func 206 []) [.ptr p 0] H k=k (.bool (!A.off)) H:=by obtain⟨D,h,h1,h2,h3,h4,rfl⟩:=h;rw[VG T.toTDisk2 h.wf h.hp h.hg,h4]
theorem sm(T:jA t){p d}{k}{A}{O}(h:cN H p A O):aj (aT cp t fuel (d+1)) (.func 88 []) [.ptr p 0] H k=k (.int 3 A.len) H:=by obtain⟨D,h,h1,h2,h3,h4,rfl⟩:=h;rw[Sz T.toTDisk2 h.wf h.hp h.hg,h1]
theorem Vz(T:jA t){n r}(hw:H.wf)(h1:1<=n)(h2:n<=1024)(hr:nn r):∃H' p O,(∀(d)(k),aj (aT cp t fuel (d+1)) (.func 38 []) [.int 3 n,.int 3 r] H k=k (.ptr p 0) H')/\cN H' p ⟨n,r,0,false,[],[]⟩ O/\ah H H'/\∀b,O b->H.n<=b:=by
 refine⟨_,H.n+1,DR.owns ⟨H.n,.aC,n,r,0,false⟩ (H.n+1),λd k=>SN T hw h1 h2 hr,⟨⟨H.n,.aC,n,r,0,false⟩,⟨by simp only[Heap.bd,hw],by simp only[Heap.aO];omega,?_,?_,by simp only[Heap.aO];omega,by simp,YH ⟨rfl,rfl⟩,by show nn n;unfold nn;omega,hr,by show nn 0;unfold nn;omega,by simp⟩,rfl,rfl,rfl,rfl,rfl⟩,ah.trans (ah.new hw) (ah.new (by rw[Heap.bd];omega)),?_⟩;.rw[Heap.aF (by rw[Heap.bd];omega),if_pos (by rfl)]
 .rw[Heap.aF (by rw[Heap.bd];omega),if_neg (by rw[Heap.aO];simp),Heap.aF hw,if_pos rfl];rfl
 .rintro b(e|e|⟨o,m,c,s,e⟩);.omega
  .simp_all
  simp_all
end
theorem aB.jl{t:Nat->Option dr}(T:aB t)(h:aP t):jA t:={off:=T.k26,state:=T.k71,aaw:=T.aey,there:=T.aed,write:=T.aeh,flush:=T.aei,read:=T.k83,len:=T.k44,on:=T.ad1,fits:=T.ad9,fits1:=T.aev,index:=T.aeB,contains:=T.aew,new:=T.k19}
abbrev Wr:=Nat×Tx
def Zu(w:Wr):List V:=[.int 3 w.1,.str w.2.1 w.2.2]
def bK(ws:List Wr):List V:=ws.flatMap Zu
theorem Ao(w)(ws):bK (w::ws)=.int 3 w.1::.str w.2.1 w.2.2::bK ws:=rfl
theorem dP(ws us):bK (ws++us)=bK ws++bK us:=by simp only[bK,Ws]
theorem dj(ws):(bK ws).length=ws.length*2:=by induction ws with|nil=>rfl|cons w ws ih=>rw[Ao];simp only[YG,ih];omega
theorem pX(pre ws):(bK (pre++ws)).drop (pre.length*2)=bK ws:=by rw[dP,<-dj,List.drop_left]
def mN(H:Heap)(v:V)(ws:List Wr)(O:Nat->Prop):Prop:=(v=.aC/\ws=[])\/∃b c s,v=.slice b 0 ws.length c s/\H.get b=.cells (bK ws)/\b<H.n/\¬O b
theorem mN.cm{H H':Heap}{v:V}{ws:List Wr}{O O':Nat->Prop}(h:mN H v ws O)(s:Step H O H' O'):mN H' v ws O':=by
 rcases h with h|⟨b,c,z,h1,h2,h3,h4⟩;.exact YH h
 .exact YE ⟨b,c,z,h1,by rw[(s.same b h3 h4).1];exact h2,YF h3 s.n,(s.same b h3 h4).2⟩
theorem mN.fresh{H H':Heap}{v:V}{ws:List Wr}{O:Nat->Prop}(h:mN H v ws O)(s:ah H H'):mN H' v ws O:=h.cm s.step
def mi(l:List Nat):List (Nat×V):=l.map λa=>(a,.int 3 1)
theorem xH:∀(l)(a),Vu (mi l) a=if a∈l then some (.int 3 1)else none
 |[],a=>rfl|b::l,a=>by
  have ih:=xH l a;unfold Vu mi at*;simp only[YN,Qt,List.mem_cons];by_cases h:a=b;.simp_all
  .have hb:(b==a)=false:=by simpa usingλe=>h e.symm
   simp only[hb,h,false_or];omega
theorem yB:∀(l)(a),a∉l->De (mi l) a (.int 3 1)=mi (l++[a])|[],a,_=>rfl|b::l,a,h=>by have hb:¬b=a:=λe=>h (by simp[e]);have ih:=yB l a λh'=>h (YI _ h');simp only[mi,YN,YK,De,hb,if_false];simp only[mi]at ih;rw[ih]
def qD(len:Nat)(w:Wr):Prop:=145<=w.1/\w.1<len/\w.2.1=32
instance(len:Nat)(w:Wr):Decidable (qD len w):=by unfold qD;infer_instance
def iu(len:Nat):List Nat->List Wr->Bool|_,[]=>true|seen,w::ws=>if qD len w/\w.1∉seen then iu len (seen++[w.1]) ws else false
section
variable{cp:RC->au}{t:Nat->Option dr}{fuel:Nat}{H:Heap}
theorem nu(T:aB t)(hc:aP t){p d}{A}{O}{k}(h:cN H p A O):aj (aT cp t fuel (d+3)) (.func 162 []) [.ptr p 0] H k=k (.int 3 (if A.off=true then 6 else 0)) H:=by have ho:∀{k},aj (aT cp t fuel (d+2)) (.func 206 []) [.ptr p 0] H k=k (.bool (!A.off)) H:=λ{k}=>Jb (T.jl hc) h;rw[ay T.k81 rfl rfl];cases hA:A.off<;>rw[hA]at ho<;>simp only[go_sem,c81,ho]
set_option maxRecDepth 4000in theorem AL(T:aB t)(hc:aP t){d p b c s M i n:Nat}{A:AD}{O:Nat->Prop}{G:Heap}{w:Wr}{pre ws:List Wr}{seen:List Nat}{kn:KE}{kx:Nat->KE}{e:Env}(hD:cN G p A O)(hl:nn A.len)(hw1:w.1<18446744073709551616)(hw2:w.2.1<1000000)(hb:G.get b=.cells (bK (pre++w::ws)))(hbn:b<G.n)(hM:G.get M=.map (eR (mi seen)))(hMn:M<G.n)(hbM:b≠M)(hpM:p≠M)(hn:n=(pre++w::ws).length)(hnb:n<1000000)(hi:i=pre.length)(h0:af s000 e=.ptr p 0)(h5:af s005 e=.map M)(h11:af s011 e=.slice b 0 n c s)(h12:af s012 e=.int 3 n)(h13:af s013 e=.int 3 i){x:R}(hT:qD A.len w/\w.1∉seen->∀e',af s000 e'=.ptr p 0->af s005 e'=.map M->af s011 e'=.slice b 0 n c s->af s012 e'=.int 3 n->af s013 e'=.int 3 (i+1)->kn e' (((G.new (.cells [.int 3 0,.str 0 0])).put G.n (.cells [.int 3 w.1,.str w.2.1 w.2.2])).put M (.map (eR (mi (seen++[w.1])))))=x)(hF:¬(qD A.len w/\w.1∉seen)->∀e',af s004 e'=.bool false->kx 0 e' ((G.new (.cells [.int 3 0,.str 0 0])).put G.n (.cells [.int 3 w.1,.str w.2.1 w.2.2]))=x):gG qB fuel (aT cp t fuel (d+1)) e G kn kx=x:=by
 have hw:=hD.wf;have hlt:i<n:=by rw[hi,hn];simp only[YB,YG];omega
 have e1:=n_ i;have e2:=n_ n;have e3:=l_ i;have e4:i*2<=(bK (pre++w::ws)).length:=by rw[dj,<-hn];omega
 have hd:(bK (pre++w::ws)).drop (i*2)=.int 3 w.1::.str w.2.1 w.2.2::bK ws:=by rw[hi,pX];rfl
 have e5:=by omega
 have e6:=by omega
 have e7:=by omega
 have e8:G.n<G.n+1:=by omega
 have e9:=m_ (i+1);have e10:=by omega
 have n145:=n_ 145;have n0:=n_ 0;have n1:=n_ 1;have e11:=l_ w.2.1;generalize hG2:(G.new (.cells [.int 3 0,.str 0 0])).put G.n (.cells [.int 3 w.1,.str w.2.1 w.2.2])=G2 at hT hF;have f2:ah G G2:=by rw[<-hG2];exact ah.put (ah.new hw) (YC _) (by simp only[Heap.aO];omega)
 have g2n:G2.get G.n=.cells [.int 3 w.1,.str w.2.1 w.2.2]:=by rw[<-hG2];simp only[Heap.aG,Heap.aF,Heap.bd,Heap.aO,hw,e8,if_true]
 have g2M:G2.get M=.map (eR (mi seen)):=by rw[f2.same M hMn];exact hM
 have g2w:=f2.wf;have g2Mn:=YF hMn f2.n;have hD2:cN G2.mark p A O:=by obtain⟨D,q,r⟩:=hD.fresh f2;exact⟨D,⟨q.wf,q.hp,q.hg,q.hm,q.vK,q.BV,q.T6,q.hl,q.hr,q.hf,q.he⟩,r⟩
 have hL:∀{k},aj (aT cp t fuel (d+1)) (.func 88 []) [.ptr p 0] G2.mark k=k (.int 3 A.len) G2.mark:=λ{k}=>sm (T.jl hc) hD2;have hlk:=xH seen w.1;by_cases hg:qD A.len w
 .obtain⟨q1,q2,q3⟩:=hg;have e12:nn w.1:=by unfold nn at*;omega
  have e13:¬w.1<145:=by omega
  have e14:¬A.len<=w.1:=by omega
  have e15:=eq_true q3;by_cases hs:w.1∈seen;.rw[if_pos hs]at hlk;simp only[go_sem,ZE,qB,h0,h5,h11,h12,h13,hlt,e1,e2,e3,e4,hd,e8,hb,hw,hG2,g2n,g2M,hL,hlk,e11,e12,e13,e14,n145,n0,n1,hl,e15,EM];exact hF (λh=>h.2 hs) _ rfl
  .rw[if_neg hs]at hlk;have hu:=yB seen w.1 hs;simp only[go_sem,ZE,qB,h0,h5,h11,h12,h13,hlt,e1,e2,e3,e4,hd,e8,e9,hb,hw,hG2,g2n,g2M,g2w,hL,hlk,e11,e12,e13,e14,n145,n0,hl,e15,EM,hu,g2Mn];refine hT ⟨⟨q1,q2,q3⟩,hs⟩ _ ?_ ?_ ?_ ?_ ?_<;>simp only[go_sem,h0,h5,h11,h12]
 .have hF':=hF (λh=>hg h.1);unfold qD at hg;by_cases q1:(dW (.lt 9223372036854775808 18446744073709551616) w.1 145=true);.simp only[go_sem,qB,h11,h12,h13,hlt,e1,e2,e3,e4,hd,e8,hb,hw,hG2,g2n,q1];exact hF' _ rfl
  .have q1':=q1;rw[Ro]at q1;have e12:=n_ w.1;have e13:¬w.1<145:=by omega
   by_cases q2:A.len<=w.1;.simp only[go_sem,qB,h0,h11,h12,h13,hlt,e1,e2,e3,e4,hd,e8,hb,hw,hG2,g2n,hL,e12,e13,n145,hl,q2,EM];exact hF' _ rfl
   .have q3:¬w.2.1=32:=λh=>hg ⟨by omega,by omega,h⟩;simp only[go_sem,qB,h0,h11,h12,h13,hlt,e1,e2,e3,e4,hd,e8,hb,hw,hG2,g2n,hL,e11,e12,e13,n145,hl,q2,q3,EM];exact hF' _ rfl
theorem SC(T:aB t)(hc:aP t){p b c s M n}{A}{O}{all}(hD:cN H p A O)(hl:nn A.len)(hall:∀w∈all,w.1<18446744073709551616/\w.2.1<1000000)(hb:H.get b=.cells (bK all))(hbn:b<H.n)(hM0:H.n<=M)(hn:n=all.length)(hnb:n<1000000):∀(ws pre)(seen)(G),all=pre++ws->ah H G->M<G.n->G.get M=.map (eR (mi seen))->∃G',ah H G'/\∀(d)(kx)(r)(e),ws.length<r->af s000 e=.ptr p 0->af s005 e=.map M->af s011 e=.slice b 0 n c s->af s012 e=.int 3 n->af s013 e=.int 3 pre.length->∀x:R,(iu A.len seen ws=true->∀e',kx 1 e' G'=x)->(iu A.len seen ws=false->∀e',af s004 e'=.bool false->kx 0 e' G'=x)->
  kf qB fuel (aT cp t fuel (d+1)) kx r e G=x:=by intro ws;induction ws with|nil=>
  intro pre seen G hal f hMn hM;refine⟨G,f,λd kx r e hr h0 h5 h11 h12 h13 x hT hF=>?_⟩;obtain⟨r,rfl⟩:=s_ r;have hi:pre.length=n:=by rw[hn,hal,YV]
  have e1:¬n<n:=by omega
  have e2:=n_ n;rw[ak];rw[hi]at h13;simp only[go_sem,qB,h12,h13,e1,e2];exact hT rfl _|cons w ws ih=>
  intro pre seen G hal f hMn hM;have hbM:b≠M:=by omega
  have hpM:p≠M:=by have:=hD.lt p hD.own;omega
  have hw:=f.wf;have hGM:=by omega
  have hn':n=(pre++w::ws).length:=by rw[hn,hal]
  have hw12:=hall w (by rw[hal];simp);have hb':G.get b=.cells (bK (pre++w::ws)):=by rw[f.same b hbn,hb,hal]
  have hbG:=YF hbn f.n;have f1:ah H ((G.new (.cells [.int 3 0,.str 0 0])).put G.n (.cells [.int 3 w.1,.str w.2.1 w.2.2])):=ah.put (f.trans (ah.new hw)) f.n (by simp only[Heap.aO];omega);have m1:M<((G.new (.cells [.int 3 0,.str 0 0])).put G.n (.cells [.int 3 w.1,.str w.2.1 w.2.2])).n:=by simp only[Heap.aV,Heap.aO];omega
  by_cases hg:qD A.len w/\w.1∉seen
  .obtain⟨G',f',hG'⟩:=ih (pre++[w]) (seen++[w.1]) (((G.new (.cells [.int 3 0,.str 0 0])).put G.n (.cells [.int 3 w.1,.str w.2.1 w.2.2])).put M (.map (eR (mi (seen++[w.1]))))) (by rw[hal];simp) (ah.put f1 hM0 m1) (by simp only[Heap.aV,Heap.aO];omega) (by rw[Heap.aG f1.wf m1,if_pos rfl]);refine⟨G',f',λd kx r e hr h0 h5 h11 h12 h13 x hT hF=>?_⟩;obtain⟨r,rfl⟩:=s_ r;have hm:iu A.len seen (w::ws)=iu A.len (seen++[w.1]) ws:=by simp only[iu,if_pos hg]
   rw[hm]at hT hF;refine AL T hc (hD.fresh f) hl hw12.1 hw12.2 hb' hbG hM hMn hbM hpM hn' hnb rfl h0 h5 h11 h12 h13 (λ_ e' g0 g5 g11 g12 g13=>?_) (λh=>absurd hg h);exact hG' d kx r e' (by simp only[YG]at hr;omega) g0 g5 g11 g12 (by rw[g13];simp) x hT hF
  .refine⟨_,f1,λd kx r e hr h0 h5 h11 h12 h13 x hT hF=>?_⟩;obtain⟨r,rfl⟩:=s_ r;exact AL T hc (hD.fresh f) hl hw12.1 hw12.2 hb' hbG hM hMn hbM hpM hn' hnb rfl h0 h5 h11 h12 h13 (λh=>absurd h hg) (λ_ e' h4=>hF (by simp only[iu,if_neg hg]) e' h4)
theorem xN(T:aB t)(hc:aP t){p}{v}{A}{O Q}{ws}(hD:cN H p A O)(hl:nn A.len)(hv:mN H v ws Q)(hall:∀w∈ws,w.1<18446744073709551616/\w.2.1<1000000)(hnb:ws.length<1000000)(hfu:ws.length<fuel):∃H',(∀(d)(k),aj (aT cp t fuel (d+2)) (.func 174 []) [.ptr p 0,v] H k=k (.bool (iu A.len [] ws)) H')/\ah H H':=by
 have hw:=hD.wf;rcases hv with⟨rfl,rfl⟩|⟨b,c,s,rfl,hb,hbn,_⟩
 .refine⟨H.new (.map []),λd k=>?_,ah.new hw⟩;obtain⟨f,rfl⟩:=s_ fuel;have n0:=n_ 0;have e1:=by omega
  rw[ay T.k87 rfl rfl];simp only[go_sem,ZE,c87,hw,ak,qB,n0,iu]
 .obtain⟨G',f',hG'⟩:=SC (c:=c) (s:=s) T hc hD hl hall hb hbn (YC _) rfl hnb ws [] [] (H.new (.map [])) rfl (ah.new hw) (by rw[Heap.aO];omega) (by rw[Heap.aF hw,if_pos rfl];rfl);refine⟨G',λd k=>?_,f'⟩;have e1:=l_ ws.length;rw[ay T.k87 rfl rfl];simp only[go_sem,c87,hw,e1];refine hG' d _ fuel _ hfu ?_ ?_ ?_ ?_ ?_ _ (λhT e'=>?_) (λhF e' h4=>?_);all_goals first|rfl|rfl|simp_all
end
section
variable{cp:RC->au}{t:Nat->Option dr}{fuel d:Nat}{H:Heap}{k:K}{args caps:List V}
theorem HQ{f g}(hf:f%2=1)(hg:g%2=0)(hF:f/2=g/2):aj (aT cp t fuel (d+1)) (.func f caps) args H k=aj (aT cp t fuel (d+1)) (.func g []) (caps++args) H k:=by show Nat.rec (jQ args caps λargs=>Iy t fuel (aT cp t fuel d) (Wm f 2) args H k) (λ_ _=>jQ caps args λargs=>Iy t fuel (aT cp t fuel d) (Wm f 2) args H k) (Yx f 2)=Nat.rec (motive:=λ_=>R) (jQ (caps++args) [] λargs=>Iy t fuel (aT cp t fuel d) (Wm g 2) args H k) (λ_ _=>jQ [] (caps++args) λargs=>Iy t fuel (aT cp t fuel d) (Wm g 2) args H k) (Yx g 2);have h1:Yx f 2=1:=hf;have h2:Yx g 2=0:=hg;have h3:Wm f 2=Wm g 2:=hF;rw[h1,h2,h3];show jQ caps args _=jQ (caps++args) [] _;rw[fu,fu,YV]
end
def AD.qJ(A:AD):List Wr->AD×Nat|[]=>(A,0)|w::ws=>if(A.write w.1 w.2.2).2=0then(A.write w.1 w.2.2).1.qJ ws else A.write w.1 w.2.2
def AD.kZ(A:AD)(ws:List Wr):AD×Nat:=if(A.qJ ws).2=0then(A.qJ ws).1.flush else A.qJ ws
def roomy(room:Nat):List (Nat×Tx)->List Wr->Prop|_,[]=>True|es,w::ws=>((find es w.1).isSome=true\/es.length<room)/\roomy room (eI es w.1 w.2) ws
theorem Lo(D)(a)(v):(eI D a v).length<=D.length+1:=by rw[lE];split<;>omega
def vX(H:Heap)(O:Nat->Prop)(f:V)(p:Nat)(ws:List Wr):Prop:=∃B0 B1 B2 v,f=.func 256 [.ptr B0 0,.ptr B1 0,.ptr B2 0]/\H.get B0=.cells [v]/\H.get B1=.cells [.func 253 [.ptr p 0]]/\H.get B2=.cells [.func 255 [.ptr p 0]]/\(B0<H.n/\¬O B0)/\(B1<H.n/\¬O B1)/\(B2<H.n/\¬O B2)/\mN H v ws O
theorem vX.cm{H H':Heap}{O O':Nat->Prop}{f:V}{p:Nat}{ws:List Wr}(h:vX H O f p ws)(s:Step H O H' O'):vX H' O' f p ws:=by obtain⟨B0,B1,B2,v,h1,h2,h3,h4,⟨a0,b0⟩,⟨a1,b1⟩,⟨a2,b2⟩,h5⟩:=h;exact⟨B0,B1,B2,v,h1,by rw[(s.same _ a0 b0).1];exact h2,by rw[(s.same _ a1 b1).1];exact h3,by rw[(s.same _ a2 b2).1];exact h4,⟨YF a0 s.n,(s.same _ a0 b0).2⟩,⟨YF a1 s.n,(s.same _ a1 b1).2⟩,⟨YF a2 s.n,(s.same _ a2 b2).2⟩,h5.cm s⟩
section
variable{cp:RC->au}{t:Nat->Option dr}{fuel:Nat}{H:Heap}
theorem oq(T:aB t){p:Nat}{v:V}{O:Nat->Prop}{ws:List Wr}(hw:H.wf)(hO:∀b,O b->b<H.n)(hv:mN H v ws O):∃H' f,(∀(d:Nat)(k:K),aj (aT cp t fuel (d+1)) (.func 178 []) [.ptr p 0,v] H k=k f H')/\ah H H'/\vX H' O f p ws:=by
 have hone:v=.aC\/∃b o l c s,v=.slice b o l c s:=by
  rcases hv with⟨rfl,_⟩|⟨b,c,s,rfl,_⟩;.exact YH rfl
  simp
 have e1:H.n+1<H.n+1+1+1:=by omega
 have e2:H.n+1+1<H.n+1+1+1:=by omega
 have e3:¬H.n=H.n+1:=by omega
 have e4:¬H.n=H.n+1+1:=by omega
 have e5:¬H.n+1=H.n+1+1:=by omega
 have e6:=by omega
 have e7:¬H.n+1=H.n:=by omega
 have f:ah H (((((H.new (.cells [v])).new (.cells [.rf])).new (.cells [.rf])).put (H.n+1) (.cells [.func 253 [.ptr p 0]])).put (H.n+1+1) (.cells [.func 255 [.ptr p 0]])):=ah.put (ah.put (ah.trans (ah.trans (ah.new hw) (ah.new (by simp only[Heap.bd,hw]))) (ah.new (by simp only[Heap.bd,hw]))) (by omega) (by simp only[Heap.aO];omega)) (by omega) (by simp only[Heap.aO,Heap.aV];omega);refine⟨_,.func 256 [.ptr H.n 0,.ptr (H.n+1) 0,.ptr (H.n+1+1) 0],λd k=>?_,f,H.n,H.n+1,H.n+1+1,v,rfl,?_,?_,?_,⟨?_,λh=>?_⟩,⟨?_,λh=>?_⟩,⟨?_,λh=>?_⟩,hv.fresh f⟩;.rw[ay T.k89 rfl rfl];rcases hone with rfl|⟨b,o,l,c,s,rfl⟩<;>simp only[go_sem,c89,hw,e1,e2,e5,e7]
 .simp only[Heap.aG,Heap.aF,Heap.bH,Heap.bd,Heap.aV,Heap.aO,hw,e1,e2,e3,e4,if_true,if_false]
 .simp only[Heap.aG,Heap.aF,Heap.bH,Heap.bd,Heap.aV,Heap.aO,hw,e1,e2,e5,if_true,if_false]
 .simp only[Heap.aG,Heap.aF,Heap.bH,Heap.bd,Heap.aV,Heap.aO,hw,e1,e2,if_true]
 .simp only[Heap.aV,Heap.aO];omega
 .have:=hO _ h;omega
 .simp only[Heap.aV,Heap.aO];omega
 .have:=hO _ h;omega
 .simp only[Heap.aV,Heap.aO];omega
 .have:=hO _ h;omega
set_option maxRecDepth 4000in theorem NN(T:aB t)(hc:aP t){p b c s n B1 B2:Nat}{all:List Wr}(hn:n=all.length)(hnb:n<10000):∀(ws pre:List Wr)(G:Heap)(A:AD)(O:Nat->Prop),all=pre++ws->cN G p A O->A.off=false->A.us.length+ws.length<90000->A.es.length+ws.length<900000->(∀w∈ws,w.1<A.len/\w.2.1=32)->roomy A.room A.es ws->G.get b=.cells (bK all)->b<G.n->¬O b->G.get B1=.cells [.func 253 [.ptr p 0]]->B1<G.n->¬O B1->∃G' O',Step G O G' O'/\cN G' p (A.qJ ws).1 O'/\∀(d:Nat)(kx:Nat->KE)(r:Nat)(e:Env),ws.length<r->af s001 e=.ptr B1 0->af s002 e=.ptr B2 0->af s007 e=.slice b 0 n c s->af s010 e=.int 3 n->af s011 e=.int 3 pre.length->∀x:R,((A.qJ ws).2=0->∀e',af s002 e'=.ptr B2 0->kx 1 e' G'=x)->((A.qJ ws).2≠0->∀e',af s003 e'=.int 3 (A.qJ ws).2->kx 0 e' G'=x)->
  kf qO fuel (aT cp t fuel (d+3)) kx r e G=x:=by intro ws;induction ws with|nil=>
  intro pre G A O hal hD ho hus hes hgood hroom hb hbn hbO hB1 hB1n hB1O;refine⟨G,O,Step.refl hD.wf,hD,λd kx r e hr h1 h2 h7 h10 h11 x hT hF=>?_⟩;obtain⟨r,rfl⟩:∃q,r=q+1:=⟨r-1,by simp only[YQ]at hr;omega⟩;have hi:pre.length=n:=by rw[hn,hal,YV]
  have e1:¬n<n:=by omega
  have e2:=n_ n;rw[ak];rw[hi]at h11;simp only[go_sem,qO,h10,h11,e1,e2];exact hT rfl _ h2|cons w ws ih=>
  intro pre G A O hal hD ho hus hes hgood hroom hb hbn hbO hB1 hB1n hB1O;have hw:=hD.wf;obtain⟨hw1,hw2⟩:=hgood w (YL ..);simp only[YG]at hus hes;have e8:G.n<G.n+1:=by omega
  obtain⟨wa,wl,wx⟩:=w;simp only at hw1 hw2;subst hw2;generalize hG1:(G.new (.cells [.int 3 0,.str 0 0])).put G.n (.cells [.int 3 wa,.str 32 wx])=G1;have f1:ah G G1:=by rw[<-hG1];exact ah.put (ah.new hw) (YC _) (by simp only[Heap.aO];omega)
  have hD1:=hD.fresh f1;have g1n:G1.get G.n=.cells [.int 3 wa,.str 32 wx]:=by rw[<-hG1];simp only[Heap.aG,Heap.aF,Heap.bd,Heap.aO,hw,e8,if_true]
  have hB1':=(f1.same B1 hB1n).trans hB1;obtain⟨G2,O2,hcall,hD2,s2⟩:=J4 (T.jl hc) hD1 ho (by omega) (by omega) hw1 hroom.1;have hcall':∀{d}{k},aj (aT cp t fuel (d+3)) (.func 253 [.ptr p 0]) [.int 3 wa,.str 32 wx] G1 k=k (.int 3 (A.write wa wx).2) G2:=λ{d k}=>by exact hcall d k
  have s12:=f1.step.trans s2;have hlt:pre.length<n:=by rw[hn,hal];simp only[YB,YG];omega
  have e1:=n_ pre.length;have e2:=n_ n;have e3:=l_ pre.length;have e4:pre.length*2<=(bK all).length:=by rw[dj,<-hn];omega
  have hd:(bK all).drop (pre.length*2)=.int 3 wa::.str 32 wx::bK ws:=by rw[hal,pX];rfl
  have e5:=by omega
  have e9:=m_ (pre.length+1);by_cases he:(A.write wa wx).2=0
  .have hA:A.qJ ((wa,32,wx)::ws)=(A.write wa wx).1.qJ ws:=by simp only[AD.qJ,if_pos he]
   have hf1:¬A.aX=1:=λh=>by simp only[AD.write,if_pos h]at he;omega
   have hw':(A.write wa wx).1={A with aX:=A.aX-1,us:=A.us++[(wa,(find A.es wa).getD (0,0),(find A.es wa).isSome)],es:=eI A.es wa (32,wx)}:=by simp only[AD.write,if_neg hf1]
   have hle:=Lo A.es wa (32,wx);obtain⟨G',O',s',hD',hG'⟩:=ih (pre++[(wa,32,wx)]) G2 _ O2 (by rw[hal];simp) hD2 (by rw[hw'];exact ho) (by rw[hw'];simp only[YB,YG,YQ];omega) (by rw[hw'];simp only;omega) (by rw[hw'];exactλw hw=>hgood w (YI _ hw)) (by rw[hw'];exact hroom.2) (by rw[(s12.same b hbn hbO).1];exact hb) (YF hbn s12.n) (s12.same b hbn hbO).2 (by rw[(s12.same _ hB1n hB1O).1];exact hB1) (YF hB1n s12.n) (s12.same _ hB1n hB1O).2;rw[hA];refine⟨G',O',s12.trans s',hD',λd kx r e hr h1 h2 h7 h10 h11 x hT hF=>?_⟩;obtain⟨r,rfl⟩:=s_ r;rw[ak];simp only[go_sem,qO,h1,h7,h10,h11,hlt,e1,e2,e3,e4,hd,e8,e9,hb,hw,hG1,g1n,hB1',hcall',he];refine hG' d kx r _ (by simp only[YG]at hr;omega) ?_ ?_ ?_ ?_ ?_ x hT hF<;>simp only[go_sem,h1,h2,h7,h10]
  .have hA:A.qJ ((wa,32,wx)::ws)=A.write wa wx:=by simp only[AD.qJ,if_neg he]
   rw[hA];refine⟨G2,O2,s12,hD2,λd kx r e hr h1 h2 h7 h10 h11 x hT hF=>?_⟩;obtain⟨r,rfl⟩:=s_ r;rw[ak];simp only[go_sem,qO,h1,h7,h10,h11,hlt,e1,e2,e3,e4,hd,e8,hb,hw,hG1,g1n,hB1',hcall',he];exact hF he _ rfl
theorem XF{A:AD}:∀{ws},A.off=false->(A.qJ ws).2=0->(A.qJ ws).1.off=false:=by intro ws;induction ws generalizing A with|nil=>intro h _;exact h|cons w ws ih=>
  intro h h0;simp only[AD.qJ]at h0⊢;split at h0
  .rename_i h1;rw[if_pos h1];refine ih ?_ h0;by_cases hf:A.aX=1;.simp[AD.write,if_pos hf]at h1
   .simp only[AD.write,if_neg hf];omega
  omega
theorem NL(T:aB t)(hc:aP t){p}{A}{O}{f}{ws}(hD:cN H p A O)(hf:vX H O f p ws)(ho:A.off=false)(hus:A.us.length+ws.length<90000)(hes:A.es.length+ws.length<900000)(hgood:∀w∈ws,w.1<A.len/\w.2.1=32)(hroom:roomy A.room A.es ws)(hnb:ws.length<10000)(hfu:ws.length<fuel):∃H' O',(∀(d)(k),aj (aT cp t fuel (d+4)) f [] H k=k (.int 3 (A.kZ ws).2) H')/\Step H O H' O'/\cN H' p (A.kZ ws).1 O':=by
 obtain⟨B0,B1,B2,v,rfl,h0,h1,h2,⟨a0,b0⟩,⟨a1,b1⟩,⟨a2,b2⟩,hv⟩:=hf;have key:∃G' O',Step H O G' O'/\cN G' p (A.qJ ws).1 O'/\∀(d)(x)(kx)(e),af s001 e=.ptr B1 0->af s002 e=.ptr B2 0->af s007 e=v->af s010 e=.int 3 ws.length->af s011 e=.int 3 0->((A.qJ ws).2=0->∀e',af s002 e'=.ptr B2 0->kx 1 e' G'=x)->((A.qJ ws).2≠0->∀e',af s003 e'=.int 3 (A.qJ ws).2->kx 0 e' G'=x)->kf qO fuel (aT cp t fuel (d+3)) kx fuel e H=x:=by
  rcases hv with⟨rfl,rfl⟩|⟨b,c,s,rfl,hb,hbn,hbO⟩
  .refine⟨H,O,Step.refl hD.wf,hD,λd x kx e g1 g2 g7 g10 g11 hT hF=>?_⟩;obtain⟨f,rfl⟩:=s_ fuel;have n0:=n_ 0;have e1:=by omega
   rw[ak];simp only[go_sem,ZE,qO,g10,g11,n0];exact hT rfl _ (by simp only[go_sem,g2])
  .obtain⟨G',O',s',hD',hG'⟩:=NN T hc rfl hnb ws [] H A O rfl hD ho hus hes hgood hroom hb hbn hbO h1 a1 b1;exact⟨G',O',s',hD',λd x kx e g1 g2 g7 g10 g11 hT hF=>hG' d kx fuel e hfu g1 g2 g7 g10 g11 x hT hF⟩
 obtain⟨G',O',s',hD',hG'⟩:=key;have e1:=l_ ws.length;have hB2':=(s'.same B2 a2 b2).1.trans h2;by_cases he:(A.qJ ws).2=0
 .obtain⟨H2,O2,hcall,hD2,s2⟩:=M1 (T.jl hc) hD' (XF ho he);have hcall':∀{d}{k},aj (aT cp t fuel (d+3)) (.func 255 [.ptr p 0]) [] G' k=k (.int 3 (A.qJ ws).1.flush.2) H2:=λ{d k}=>by exact hcall d k
  refine⟨H2,O2,λd k=>?_,s'.trans s2,by simp only[AD.kZ,if_pos he];omega⟩;rw[ay T.abe rfl rfl];simp only[AD.kZ,if_pos he];rcases hv with⟨rfl,rfl⟩|⟨b,c,s,rfl,_⟩;.simp only[go_sem,ZE,UR,h0];refine hG' d _ _ _ ?_ ?_ ?_ ?_ ?_ (λ_ e' g2=>?_) (λh=>absurd he h);all_goals first|(simp only[go_sem,YQ];done)|simp only[go_sem,g2,hB2',hcall']
  .simp only[go_sem,ZE,UR,h0,e1];refine hG' d _ _ _ ?_ ?_ ?_ ?_ ?_ (λ_ e' g2=>?_) (λh=>absurd he h);all_goals first|(simp only[go_sem];done)|simp only[go_sem,g2,hB2',hcall']
 .refine⟨G',O',λd k=>?_,s',by simp only[AD.kZ,if_neg he];omega⟩;rw[ay T.abe rfl rfl];simp only[AD.kZ,if_neg he];rcases hv with⟨rfl,rfl⟩|⟨b,c,s,rfl,_⟩;.exact absurd rfl he
  .simp only[go_sem,ZE,UR,h0,e1];refine hG' d _ _ _ ?_ ?_ ?_ ?_ ?_ (λh=>absurd h he) (λ_ e' g3=>?_);all_goals first|(simp only[go_sem];done)|simp only[go_sem,g3]
end
def AD.runs(A:AD):List (List Wr)->AD×Nat|[]=>(A,0)|ws::l=>if(A.kZ ws).2=0then(A.kZ ws).1.runs l else A.kZ ws
def laid(es:List (Nat×Tx))(ws:List Wr):List (Nat×Tx):=ws.foldl (λes w=>eI es w.1 w.2) es
theorem jo(es)(ws us):laid es (ws++us)=laid (laid es ws) us:=by simp only[laid,List.foldl_append]
theorem nw{room}:∀{ws us}{es},roomy room es (ws++us)↔roomy room es ws/\roomy room (laid es ws) us|[],us,es=>by simp only[YJ,roomy,true_and];rfl|w::ws,us,es=>by simp only[YK,roomy,and_assoc];rw[nw];rfl
theorem Fe(ws)(es):(laid es ws).length<=es.length+ws.length:=by induction ws generalizing es with|nil=>exact YC _|cons w ws ih=>have h1:=ih (eI es w.1 w.2);have h2:=Lo es w.1 w.2;simp only[YG];have h3:laid es (w::ws)=laid (eI es w.1 w.2) ws:=rfl;rw[h3];omega
structure ON(A B:AD)(es:List (Nat×Tx)):Prop where
 len:B.len=A.len
 room:B.room=A.room
 off:B.off=A.off
 es:B.es=es
theorem Ha:∀{ws}{A},(∀w∈ws,w.2.1=32)->(A.qJ ws).2=0->ON A (A.qJ ws).1 (laid A.es ws)/\(A.qJ ws).1.us.length=A.us.length+ws.length
 |[],A,_,_=>⟨⟨rfl,rfl,rfl,rfl⟩,rfl⟩|w::ws,A,hl,h0=>by
  simp only[AD.qJ]at h0⊢;split at h0
  .rename_i h1;rw[if_pos h1];have hf:¬A.aX=1:=λh=>by simp only[AD.write,if_pos h]at h1;omega
   have hw:(A.write w.1 w.2.2).1={A with aX:=A.aX-1,us:=A.us++[(w.1,(find A.es w.1).getD (0,0),(find A.es w.1).isSome)],es:=eI A.es w.1 (32,w.2.2)}:=by simp only[AD.write,if_neg hf]
   obtain⟨⟨g1,g2,g3,g4⟩,g5⟩:=Ha (λv hv=>hl v (YI _ hv)) h0;have h32:(32,w.2.2)=w.2:=by rw[<-hl w (YL ..)]
   rw[hw,h32]at g1 g2 g3 g4 g5⊢;refine⟨⟨g1,g2,g3,g4⟩,?_⟩;rw[g5];simp only[YB,YG,YQ];omega
  omega
theorem AV{ws}{A}(hl:∀w∈ws,w.2.1=32)(h0:(A.kZ ws).2=0):ON A (A.kZ ws).1 (laid A.es ws)/\(A.kZ ws).1.us=[]:=by
 unfold AD.kZ at h0⊢;by_cases h1:(A.qJ ws).2=0
 .rw[if_pos h1]at h0⊢;obtain⟨⟨g1,g2,g3,g4⟩,g5⟩:=Ha hl h1;by_cases hf:(A.qJ ws).1.aX=1;.simp only[AD.flush,if_pos hf]at h0;omega
  .simp only[AD.flush,if_neg hf];exact⟨⟨g1,g2,g3,g4⟩,trivial⟩
 simp_all
def RR(fs:List (V×List Wr)):List V:=fs.map (·.1)
structure Dh(A:AD)(l:List (List Wr)):Prop where
 off:A.off=false
 us:∀ws∈l,A.us.length+ws.length<90000
 es:A.es.length+l.flatten.length<900000aa1:∀ws∈l,∀w∈ws,w.1<A.len/\w.2.1=32room:roomy A.room A.es l.flatten
theorem Dh.next{A:AD}{ws:List Wr}{l:List (List Wr)}(h:Dh A (ws::l))(h0:(A.kZ ws).2=0):Dh (A.kZ ws).1 l:=by
 obtain⟨⟨g1,g2,g3,g4⟩,g5⟩:=AV (λw hw=>(h.aa1 ws (YL ..) w hw).2) h0;have hl:=Fe ws A.es;refine⟨g3.trans h.off,λus hus=>?_,?_,λus hus w hw=>?_,?_⟩;.rw[g5];have:=h.us us (YI _ hus);simp only[YQ];omega
 .rw[g4];have:=h.es;simp only[WO,YB]at this;omega
 .rw[g1];exact h.aa1 us (YI _ hus) w hw
 .rw[g2,g4];have:=h.room;simp only[WO]at this;exact(nw.1 this).2
section
variable{cp:RC->au}{t:Nat->Option dr}{fuel:Nat}{H:Heap}
set_option maxRecDepth 4000in theorem Tr(T:aB t)(hc:aP t){p b c s n}{all}(hn:n=all.length)(hnb:n<10000):∀(fs pre)(G)(A)(O),all=pre++fs->cN G p A O->Dh A (fs.map (·.2))->(∀f∈fs,vX G O f.1 p f.2/\f.2.length<10000/\f.2.length<fuel)->G.get b=.cells (RR all)->b<G.n->¬O b->∃G' O',Step G O G' O'/\cN G' p (A.runs (fs.map (·.2))).1 O'/\∀(d)(kx)(r)(e),fs.length<r->af s006 e=.slice b 0 n c s->af s007 e=.int 3 n->af s010 e=.int 3 pre.length->∀x:R,((A.runs (fs.map (·.2))).2=0->∀e',kx 1 e' G'=x)->((A.runs (fs.map (·.2))).2≠0->∀e',af s002 e'=.int 3 (A.runs (fs.map (·.2))).2->kx 0 e' G'=x)->
  kf DT fuel (aT cp t fuel (d+4)) kx r e G=x:=by intro fs;induction fs with|nil=>
  intro pre G A O hal hD hR hfs hb hbn hbO;refine⟨G,O,Step.refl hD.wf,hD,λd kx r e hr h6 h7 h10 x hT hF=>?_⟩;obtain⟨r,rfl⟩:=s_ r;have hi:pre.length=n:=by rw[hn,hal,YV]
  have e1:¬n<n:=by omega
  have e2:=n_ n;rw[ak];rw[hi]at h10;simp only[go_sem,DT,h7,h10,e1,e2];exact hT rfl _|cons f fs ih=>
  intro pre G A O hal hD hR hfs hb hbn hbO;obtain⟨f,ws⟩:=f;obtain⟨hf1,hf2,hf3⟩:=hfs (f,ws) (YL ..);simp only at hf1 hf2 hf3;simp only[YN]at hR⊢;have hrm:=hR.room;have hes:=hR.es;simp only[WO,YB]at hes;obtain⟨G2,O2,hcall,s2,hD2⟩:=NL (cp:=cp) T hc hD hf1 hR.off (hR.us ws (YL ..)) (by omega) (hR.aa1 ws (YL ..)) (nw.1 hrm).1 hf2 hf3;have hlt:pre.length<n:=by rw[hn,hal];simp only[YB,YG];omega
  have e1:=n_ pre.length;have e2:=n_ n;have e3:=l_ pre.length;have hget:(RR all)[pre.length]?=some f:=by rw[hal];simp[RR]
  have hnth:∀{id}{k},nth id (RR all) pre.length k=k f:=iV hget;have e9:=m_ (pre.length+1);by_cases he:(A.kZ ws).2=0
  .have hA:A.runs (ws::fs.map (·.2))=(A.kZ ws).1.runs (fs.map (·.2)):=by simp only[AD.runs,if_pos he]
   obtain⟨G',O',s',hD',hG'⟩:=ih (pre++[(f,ws)]) G2 _ O2 (by rw[hal];simp) hD2 (hR.next he) (λg hg=>⟨(hfs g (YI _ hg)).1.cm s2,(hfs g (YI _ hg)).2⟩) ((s2.same b hbn hbO).1.trans hb) (YF hbn s2.n) (s2.same b hbn hbO).2;rw[hA];refine⟨G',O',s2.trans s',hD',λd kx r e hr h6 h7 h10 x hT hF=>?_⟩;obtain⟨r,rfl⟩:=s_ r;rw[ak];simp only[go_sem,DT,h6,h7,h10,hlt,e1,e2,e3,hb,hnth,hcall,he,e9];refine hG' d kx r _ (by simp only[YG]at hr;omega) ?_ ?_ ?_ x hT hF<;>simp only[go_sem,h6,h7]
  .have hA:A.runs (ws::fs.map (·.2))=A.kZ ws:=by simp only[AD.runs,if_neg he]
   rw[hA];refine⟨G2,O2,s2,hD2,λd kx r e hr h6 h7 h10 x hT hF=>?_⟩;obtain⟨r,rfl⟩:=s_ r;rw[ak];simp only[go_sem,DT,h6,h7,h10,hlt,e1,e2,e3,hb,hnth,hcall,he];exact hF he _ rfl
theorem yh(T:aB t)(hc:aP t){p b c s}{A}{O}{fs}(hD:cN H p A O)(hR:Dh A (fs.map (·.2)))(hfs:∀f∈fs,vX H O f.1 p f.2/\f.2.length<10000/\f.2.length<fuel)(hb:H.get b=.cells (RR fs))(hbn:b<H.n)(hbO:¬O b)(hnb:fs.length<10000)(hfu:fs.length<fuel):∃H' O',(∀(d)(k),aj (aT cp t fuel (d+5)) (.func 176 []) [.slice b 0 fs.length c s] H k=k (.int 3 (A.runs (fs.map (·.2))).2) H')/\Step H O H' O'/\cN H' p (A.runs (fs.map (·.2))).1 O':=by obtain⟨G',O',s',hD',hG'⟩:=Tr (c:=c) (s:=s) T hc rfl hnb fs [] H A O rfl hD hR hfs hb hbn hbO;refine⟨G',O',λd k=>?_,s',hD'⟩;have e1:=l_ fs.length;rw[ay T.k88 rfl rfl];simp only[go_sem,c88,e1];refine hG' d _ fuel _ hfu ?_ ?_ ?_ _ (λh e'=>?_) (λh e' h2=>?_);all_goals first|rfl|simp_all|rfl
end
theorem iL:∀(a b),enc (a++b)=enc a+enc b*256^a.length
 |[],b=>by simp[enc]|x::a,b=>by
  simp only[YK,enc,iL a b,YG,Qa];have h:256*(enc b*256^a.length)=enc b*(256^a.length*256):=by rw[Nat.mul_left_comm,Wt 256]
  omega
theorem Bd(a b):V.str (a.length+b.length) (enc a+enc b*256^a.length)=tv (a++b):=by simp only[tv,YB,iL]
def be:Nat->Nat->List UInt8->List UInt8|0,_,s=>s|m+1,n,s=>if n=0then s else be m (n/256) (UInt8.ofNat (n%256)::s)
def bE(n:Nat):List UInt8:=UInt8.ofNat (be 8 n []).length::be 8 n []
theorem pP:∀(m n)(s),(be m n s).length<=m+s.length
 |0,n,s=>by simp[be]|m+1,n,s=>by
  simp only[be];split;.omega
  .have:=pP m (n/256) (UInt8.ofNat (n%256)::s);simp only[YG]at this;omega
theorem bO(n):(bE n).length<=9:=by have:=pP 8 n [];simp only[bE,YG,YQ]at*;omega
theorem toNat_ofNat{n:Nat}(h:n<256):(UInt8.ofNat n).toNat=n:=by simp_all
theorem nI{a b}(ha:a<18446744073709551616)(hb:b<18446744073709551616):(dW (.gt 0 18446744073709551616) a b=true)=(b<a):=by rw[KB,WM,WM,WE ha,WE hb]
theorem AK{a b}(ha:a<18446744073709551616)(hb:b<18446744073709551616):(dW (.lt 0 18446744073709551616) a b=true)=(a<b):=by rw[Ro,WM,WM,WE ha,WE hb]
theorem Ti{s}{v i}:Js (enc s*256^(i+1)) i 1 v=(v+256*enc s)*256^i:=by
 unfold Js;have h1:enc s*256^(i+1)%256^i=0:=by rw[Qa,Wt (256^i),<-YO0];simp
 have h2:(enc s*256^(i+1))>>>(8*(i+1))=enc s:=by rw[WD,QT,show(2^8:Nat)=256by rfl,YO3 _ (Qz (by omega))]
 rw[h1,h2,Nat.pow_one,Nat.zero_add,Wt (enc s)]
section
variable{cp:RC->au}{t:Nat->Option dr}{fuel:Nat}{H:Heap}
theorem FN(T:aB t){B}:∀(m n)(s)(G),m+s.length=8->n<256^m->ah H G->H.n<=B->B<G.n->G.get B=.bytes 8 (enc s*256^m)->∃G',ah H G'/\B<G'.n/\G'.get B=.bytes 8 (enc (be m n s)*256^(8-(be m n s).length))/\∀(d)(kx)(r)(e)(v0),m<r->af s000 e=v0->af s001 e=.int 7 n->af s005 e=.ptr B 0->af s006 e=.int 3 m->∀x:R,(∀e',af s000 e'=v0->af s005 e'=.ptr B 0->af s006 e'=.int 3 (8-(be m n s).length)->kx 1 e' G'=x)->
  kf wE fuel (aT cp t fuel d) kx r e G=x:=by intro m;induction m with|zero=>
  intro n s G hm hn f hB hBn hb;have hn0:=by simp at hn;omega
  subst hn0;have hs:8-s.length=0:=by omega
  simp only[be];refine⟨G,f,hBn,by rw[hs];omega,λd kx r e v0 hr h0 h1 h5 h6 x hT=>?_⟩;obtain⟨r,rfl⟩:=s_ r;have e1:(dW (.gt 0 18446744073709551616) 0 0=true)=False:=by rw[nI (by omega) (by omega)];simp
  rw[ak];simp only[go_sem,wE,h1,e1];exact hT _ h0 h5 (by simp only[go_sem,h6,hs])|succ m ih=>
  intro n s G hm hn f hB hBn hb;have hn64:n<18446744073709551616:=by have:256^(m+1)<=256^8:=Nat.pow_le_pow_right (by omega) (by omega);omega
  have e1:(dW (.gt 0 18446744073709551616) n 0=true)=(0<n):=nI hn64 (by omega);by_cases h0:n=0
  .subst h0;simp only[be,if_true];have hs:8-s.length=m+1:=by omega
   refine⟨G,f,hBn,by rw[hs];omega,λd kx r e v0 hr h0 h1 h5 h6 x hT=>?_⟩;obtain⟨r,rfl⟩:=s_ r;have e2:=by omega
   rw[ak];simp only[go_sem,ZE,wE,h1,e1];exact hT _ h0 h5 (by simp only[go_sem,h6,hs])
  .have hd:n/256<256^m:=by omega
   have hw:=f.wf;have hx:Js (enc s*256^(m+1)) m 1 (n%256)=enc (UInt8.ofNat (n%256)::s)*256^m:=by rw[Ti];simp only[enc,toNat_ofNat (show n%256<256by omega)]
   obtain⟨G',f',hB',hb',hG'⟩:=ih (n/256) (UInt8.ofNat (n%256)::s) (G.put B (.bytes 8 (enc (UInt8.ofNat (n%256)::s)*256^m))) (by simp only[YG];omega) hd (ah.put f hB hBn) hB (by rw[Heap.aV];omega) (by rw[Heap.aG hw hBn,if_pos rfl]);simp only[be,if_neg h0];refine⟨G',f',hB',hb',λd kx r e v0 hr h0' h1 h5 h6 x hT=>?_⟩;obtain⟨r,rfl⟩:=s_ r;have e2:0<n:=by omega
   have e3:(m+1+18446744073709551615)%18446744073709551616=m:=by omega
   have e4:m<8:=by omega
   have e5:=l_ m;have e6:m+1<=8:=by omega
   have e7:n>>>8=n/256:=by omega
   rw[ak];simp only[go_sem,wE,h1,h5,h6,e1,e2,e3,e4,e5,e6,e7,hb,hx,hw,hBn,hn64];refine hG' d kx r _ v0 (by omega) ?_ ?_ ?_ ?_ x hT<;>simp only[go_sem,h0',h5]
theorem yb(T:aB t){d}{k}{l x b o n c s len y}(hb:H.get b=.bytes len y)(hl:o+n<=len)(hs:l+n<9223372036854775808):aj (aT cp t fuel (d+1)) (.func 312 []) [.str l x,.slice b o n c s] H k=k (.str (l+n) (x+(y>>>(8*o))%256^n*256^l)) H:=by rw[ay T.aeA rfl rfl];simp only[go_sem,adl,hb,hl,hs]
theorem eM(T:aB t){a}{n}(hw:H.wf)(ha:a.length<4000000000000000000)(hn:n<18446744073709551616)(hfu:8<fuel):∃H',(∀(d)(k),aj (aT cp t fuel (d+2)) (.func 278 []) [tv a,.int 7 n] H k=k (tv (a++bE n)) H')/\ah H H':=by
 obtain⟨G',f',hB',hb',hG'⟩:=FN T 8 n [] (H.new (.bytes 8 0)) rfl (by omega) (ah.new hw) (YC _) (by rw[Heap.aO];omega) (by rw[Heap.aF hw,if_pos rfl];simp[enc]);have hle:=pP 8 n [];simp only[YQ,WM]at hle;have hpn:bE n=UInt8.ofNat (be 8 n []).length::be 8 n []:=rfl;generalize be 8 n []=s at hb' hG' hle hpn;have hw':=f'.wf;have f2:ah H (G'.new (.bytes 1 s.length)):=f'.trans (ah.new hw');refine⟨_,λd k=>?_,f2⟩;have e1:(8+(18446744073709551616-(8-s.length)))%18446744073709551616=s.length:=by omega
 have e2:s.length%256=s.length:=by omega
 have p1:∀{k},aj (aT cp t fuel (d+1)) (.func 312 []) [.str a.length (enc a),.slice G'.n 0 1 2 0] (G'.new (.bytes 1 s.length)) k=k (.str (a.length+1) (enc a+s.length*256^a.length)) (G'.new (.bytes 1 s.length)):=λ{k}=>by rw[yb T (by rw[Heap.aF hw',if_pos rfl]) (by omega) (by omega)];rw[Nat.mul_zero,Nat.shiftRight_zero,Nat.pow_one,e2]
 have hB2:(G'.new (.bytes 1 s.length)).get H.n=.bytes 8 (enc s*256^(8-s.length)):=by rw[Heap.aF hw',if_neg (by omega)];omega
 have e3:8-(8-s.length)=s.length:=by omega
 have e4:(enc s*256^(8-s.length))>>>(8*(8-s.length))%256^s.length=enc s:=by rw[WD,QT,show(2^8:Nat)=256by rfl,YO3 _ (Qz (by omega)),WE (iM s)]
 have p2:∀{k}{c},aj (aT cp t fuel (d+1)) (.func 312 []) [.str (a.length+1) (enc a+s.length*256^a.length),.slice H.n (8-s.length) s.length c 0] (G'.new (.bytes 1 s.length)) k=k (tv (a++bE n)) (G'.new (.bytes 1 s.length)):=λ{k c}=>by rw[yb T hB2 (by omega) (by omega),e4];congr 1;rw[hpn];simp only[tv,YB,YG,V.str.injEq,iL,enc,toNat_ofNat (show s.length<256by omega)];refine⟨by omega,?_⟩;rw[Qa,Nat.add_mul,Nat.add_assoc,Wt 256 (enc s),YO0,Wt 256]
 have p3:∀{k},aj (aT cp t fuel (d+1)) (.func 312 []) [.str (a.length+1) (enc a+s.length*256^a.length),.slice H.n 0 0 1 0] (G'.new (.bytes 1 s.length)) k=k (.str (a.length+1+0) (enc a+s.length*256^a.length+enc s*256^(8-s.length)>>>(8*0)%256^0*256^(a.length+1))) (G'.new (.bytes 1 s.length)):=λ{k}=>yb T hB2 (by omega) (by omega);have e5:8-s.length<=8:=by omega
 have e6:=l_ (8-s.length);rw[ay T.aet rfl rfl];rw[show tv a=.str a.length (enc a)from rfl];simp only[go_sem,adh,hw];refine hG' (d+1) _ fuel _ (.str a.length (enc a)) hfu ?_ ?_ ?_ ?_ _ (λe' g0 g5 g6=>?_);.rfl
 .rfl
 .rfl
 .rfl
 .by_cases hz:s.length=0
  .have hs0:=List.eq_nil_of_length_eq_zero hz;subst hs0;have hr:tv (a++bE n)=.str (a.length+1) (enc a):=by rw[hpn];simp only[tv,YB,YG,YQ,V.str.injEq,iL,enc];simp
   have hz0:∀q,0%256^q=0:=λq=>Nat.zero_mod _;simp only[YQ,Nat.sub_zero,Nat.zero_mul,WM,enc,hz0]at p1 p3 g6;simp only[go_sem,ZE,g0,g5,g6,hw',YQ,p1,p3,hr]
  .have e7:¬8=8-s.length:=by omega
   simp only[go_sem,g0,g5,g6,hw',e1,e2,e3,e5,e6,e7,p1,p2]
end
end Go.Ev
end
