/- LA: a part of the evaluator,of its logic,or of the laws' walk in it. -/
import Derived.Test.YtabnemidjklolaaGreatDoorLg
import Derived.Test.YtabnemidjklolaaGreatDoorCode
open List renaming getElem?_eq_getElem→YA,length_append→YB,length_cons→YH,mem_cons_of_mem→YI,nil_append→YJ,cons_append→YL,mem_cons_self→YM,map_cons→YP,length_nil→YS,append_nil→YX,flatten_cons→WL,flatMap_cons→Wa,flatMap_append→QB,find?_cons→Qc
open Nat renaming le_refl→YC,lt_of_lt_of_le→YE,le_trans→Yr,mod→Yx,shiftRight_eq_div_pow→WE,mod_eq_of_lt→WH,add_zero→WN,div→Wo,mul_comm→Ww,pow_mul→QY,pow_succ→Qd,mul_assoc→YP0,mul_div_cancel→YP2
open Or renaming inr→YD,inl→YF
open Option renaming getD_some→YU,map_some→Wq,getD_none→Wv,isSome_none→Qj,map_none→Qm,isSome_some→Qx
open Bool renaming false_eq_true→YV
set_option linter.unusedVariables false
set_option linter.unusedSimpArgs false
set_option linter.unusedSectionVars false
set_option maxHeartbeats 8000000
open Nat renaming reduceLT→ZE
section
namespace Go.Ev
structure DR where
 m:Nat
 u:V
 len:Nat
 room:Nat
 aT:Nat
 off:Bool
def DR.cQ(D:DR):eN:=.cells [.map D.m,D.u,.int 3 D.len,.int 3 D.room,.int 3 D.aT,.bool D.off]
section
variable{cp:RC->au}{t:Nat->Option du}{fuel d:Nat}{H:Heap}{k:K}
structure TDisk(t:Nat->Option du):Prop where off:t 26=some (.code [s000] [] c26)state:t 71=some (.code [s000] [.tmp s002] c71)abY:t 153=some (.code [s000] [.tmp s002] Sm)there:t 119=some (.code [s000,s001] [.tmp s004] XB)write:t 126=some (.code [s000,s001,s002] [.tmp s006] EO)
variable(T:TDisk t)
include T
theorem UI{p}{D:DR}(hw:H.wf)(hp:p<H.n)(hg:H.get p=D.cQ):aj (aS cp t fuel (d+1)) (.func 52 []) [.ptr p 0] H k=k (.cG []) (H.put p {D with aT:=0,off:=true}.cQ):=by rw[ax T.off rfl rfl];simp only[go_sem,c26,DR.cQ,hg,hw,hp]
theorem eh{p}{D:DR}(hw:H.wf)(hp:p<H.n)(hg:H.get p=D.cQ):aj (aS cp t fuel (d+1)) (.func 142 []) [.ptr p 0] H k=k (.int 3 (if D.off=true then 6 else 0)) H:=by rw[ax T.state rfl rfl];cases ho:D.off<;>simp only[go_sem,c71,DR.cQ,hg,ho]
theorem uh{p}{D:DR}(hw:H.wf)(hp:p<H.n)(hg:H.get p=D.cQ)(ho:D.off=false)(hf:D.aT≠1)(hfb:nn D.aT):aj (aS cp t fuel (d+2)) (.func 306 []) [.ptr p 0] H k=k (.int 3 0) (H.put p {D with aT:=D.aT-1}.cQ):=by
 have h5:=n_ 0;have hs:∀{k},aj (aS cp t fuel (d+1)) (.func 142 []) [.ptr p 0] (H.put p {D with aT:=D.aT-1}.cQ) k=k (.int 3 0) (H.put p {D with aT:=D.aT-1}.cQ):=λ{k}=>by rw[eh T (by rw[Heap.bu];omega) (by rw[Heap.aR];omega) (by rw[Heap.aC hw hp,if_pos rfl])];simp only[ho,YV,if_false]
 simp only[DR.cQ,ho]at hs⊢;rw[ax T.abY rfl rfl];by_cases h0:D.aT=0
 .have h6:xb true 9223372036854775808 18446744073709551616 18446744073709551615 0=0:=by decide
  have h7:¬(18446744073709551615=0):=by omega
  simp only[h0]at hs;simp only[go_sem,Sm,DR.cQ,hg,hw,hp,ho,h0,h6,h7,hs]
 .have h1:(D.aT+18446744073709551615)%18446744073709551616=D.aT-1:=by unfold nn at hfb;omega
  have h2:¬D.aT-1=0:=by omega
  have h3:nn (D.aT-1):=by unfold nn at*;omega
  have h4:max (D.aT-1) 0=D.aT-1:=by omega
  simp only[go_sem,Sm,DR.cQ,hg,hw,hp,ho,h1,h2,h3,h4,h5,hs]
theorem jq{p a}{D:DR}(hw:H.wf)(hp:p<H.n)(hg:H.get p=D.cQ)(hl:nn D.len)(ha:a<18446744073709551616):aj (aS cp t fuel (d+1)) (.func 238 []) [.ptr p 0,.int 3 a] H k=k (.bool (decide (a<D.len))) H:=by
 have h5:nn 0:=by unfold nn;simp
 rw[ax T.there rfl rfl];by_cases h:nn a;.have h8:=Nat.zero_le a;by_cases h9:a<D.len<;>simp only[go_sem,XB,DR.cQ,hg,h,h5,h8,h9,hl,decide_true,decide_false]
 .have h8:(ej (.ge 9223372036854775808 18446744073709551616) a 0=true)=False:=by
   rw[Fs];unfold nn at h;apply propext;constructor;.omega
   simp
  have h9:¬a<D.len:=by unfold nn at h hl;omega
  simp only[go_sem,XB,h8,h9,decide_false]
def sv(p:Nat×Nat):V:=.str p.1 p.2
def dC(D:List (Nat×(Nat×Nat))):List (Nat×V):=D.map λp=>(p.1,sv p.2)
def find(D:List (Nat×(Nat×Nat)))(a:Nat):Option (Nat×Nat):=(D.find? λp=>p.1==a).map (·.2)
omit T in theorem lu:∀(D)(a),Y5 (dC D) a=(find D a).map sv|[],a=>rfl|p::D,a=>by have ih:=lu D a;unfold Y5 find dC at*;simp only[YP,Qc];cases h:p.1==a with|true=>rfl|false=>omega
set_option maxRecDepth 4000in theorem Lk{p a x:Nat}{D:DR}{es:List (Nat×(Nat×Nat))}(hw:H.wf)(hp:p<H.n)(hg:H.get p=D.cQ)(hm:H.get D.m=.map (cZ (dC es)))(nX:D.m<H.n)(wJ:D.m≠p)(ho:D.off=false)(hf:D.aT≠1)(hfb:nn D.aT)(hl:nn D.len)(hr:nn D.room)(he:es.length<9223372036854775808)(ha:a<D.len)(hroom:(find es a).isSome=true\/es.length<D.room)(hu:D.u=.aE):aj (aS cp t fuel (d+3)) (.func 252 []) [.ptr p 0,.int 3 a,.str 32 x] H k=k (.int 3 0) (((((H.put p {D with aT:=D.aT-1}.cQ).new (.cells [.int 3 a,sv ((find es a).getD (0,0)),.bool (find es a).isSome])).new (.cells [.int 3 a,sv ((find es a).getD (0,0)),.bool (find es a).isSome])).put p {D with aT:=D.aT-1,u:=.slice (H.n+1) 0 1 0 3}.cQ).put D.m (.map (cZ (Ch (dC es) a (.str 32 x))))):=by
 have hs:∀{k},aj (aS cp t fuel (d+2)) (.func 142 []) [.ptr p 0] H k=k (.int 3 0) H:=λ{k}=>by rw[eh T hw hp hg,ho];rfl
 have ht:∀{k},aj (aS cp t fuel (d+2)) (.func 238 []) [.ptr p 0,.int 3 a] H k=k (.bool true) H:=λ{k}=>by rw[jq T hw hp hg hl (by unfold nn at hl;omega),decide_eq_true ha]
 have hb:∀{k},aj (aS cp t fuel (d+2)) (.func 306 []) [.ptr p 0] H k=k (.int 3 0) (H.put p {D with aT:=D.aT-1}.cQ):=λ{k}=>uh T hw hp hg ho hf hfb;have n1:¬p=H.n:=by omega
 have n2:¬p=H.n+1:=by omega
 have n3:¬D.m=H.n:=by omega
 have n4:¬D.m=H.n+1:=by omega
 have n5:p<H.n+1+1:=by omega
 have n6:D.m<H.n+1+1:=by omega
 have n7:=by omega
 rw[ax T.write rfl rfl];simp only[DR.cQ]at hb;have hlk:=lu es a;have hel:(cZ (dC es)).length=es.length:=by simp[cZ,dC]
 have hnn:=n_ es.length;cases hfi:find es a with|some q=>rw[hfi]at hlk;simp only[Wq,sv]at hlk;simp only[go_sem,↓dn,ZE,EO,hs,ht,hb,DR.cQ,hg,hm,hw,hp,wJ,ho,hu,hlk,n1,n2,n3,n4,n5,n6,YU,Qx,sv]|none=>
  rw[hfi]at hlk;simp only[Qm]at hlk;have hrm:¬D.room<=es.length:=by
   rcases hroom with h|h;.rw[hfi]at h;cases h
   .omega
  simp only[go_sem,↓dn,ZE,EO,hs,ht,hb,DR.cQ,hg,hm,hw,hp,wJ,ho,hu,hlk,hel,hnn,hr,he,hrm,n1,n2,n3,n4,n5,n6,Wv,Qj,sv]
set_option maxRecDepth 4000in theorem IH{p a x:Nat}{D:DR}{es:List (Nat×(Nat×Nat))}(hw:H.wf)(hp:p<H.n)(hg:H.get p=D.cQ)(hm:H.get D.m=.map (cZ (dC es)))(nX:D.m<H.n)(wJ:D.m≠p)(ho:D.off=false)(hf:D.aT≠1)(hfb:nn D.aT)(hl:nn D.len)(hr:nn D.room)(he:es.length<9223372036854775808)(ha:a<D.len)(hroom:(find es a).isSome=true\/es.length<D.room){ub n:Nat}{us:List V}(hu:D.u=.slice ub 0 n 0 3)(hus:us.length=n*3)(hn0:0<n)(hnb:n<1073741000)(hub:H.get ub=.cells us)(hubn:ub<H.n)(hup:ub≠p)(hum:ub≠D.m):aj (aS cp t fuel (d+3)) (.func 252 []) [.ptr p 0,.int 3 a,.str 32 x] H k=k (.int 3 0) ((((((H.put p {D with aT:=D.aT-1}.cQ).new (.cells [.int 3 a,sv ((find es a).getD (0,0)),.bool (find es a).isSome])).put ub .dead).new (.cells (us++[.int 3 a,sv ((find es a).getD (0,0)),.bool (find es a).isSome]))).put p {D with aT:=D.aT-1,u:=.slice (H.n+1) 0 (n+1) 0 3}.cQ).put D.m (.map (cZ (Ch (dC es) a (.str 32 x))))):=by
 have hs:∀{k},aj (aS cp t fuel (d+2)) (.func 142 []) [.ptr p 0] H k=k (.int 3 0) H:=λ{k}=>by rw[eh T hw hp hg,ho];rfl
 have ht:∀{k},aj (aS cp t fuel (d+2)) (.func 238 []) [.ptr p 0,.int 3 a] H k=k (.bool true) H:=λ{k}=>by rw[jq T hw hp hg hl (by unfold nn at hl;omega),decide_eq_true ha]
 have hb:∀{k},aj (aS cp t fuel (d+2)) (.func 306 []) [.ptr p 0] H k=k (.int 3 0) (H.put p {D with aT:=D.aT-1}.cQ):=λ{k}=>uh T hw hp hg ho hf hfb;have n1:¬p=H.n:=by omega
 have n2:¬p=H.n+1:=by omega
 have n3:¬D.m=H.n:=by omega
 have n4:¬D.m=H.n+1:=by omega
 have n5:p<H.n+1+1:=by omega
 have n6:D.m<H.n+1+1:=by omega
 have n7:=by omega
 have n8:¬ub=H.n:=by omega
 have n9:=by omega
 have n10:ub<H.n+1:=by omega
 have n11:n+1<=1073741824:=by omega
 have n12:¬p=ub:=λe=>hup e.symm;have n13:¬D.m=ub:=λe=>hum e.symm;rw[ax T.write rfl rfl];simp only[DR.cQ]at hb;have hlk:=lu es a;have hel:(cZ (dC es)).length=es.length:=by simp[cZ,dC]
 have hnn:=n_ es.length;cases hfi:find es a with|some q=>rw[hfi]at hlk;simp only[Wq,sv]at hlk;simp only[go_sem,↓dn,ZE,EO,hs,ht,hb,DR.cQ,hg,hm,hw,hp,wJ,ho,hu,hlk,n1,n2,n3,n4,n5,n6,n8,n10,n11,n12,n13,hus,hub,hup,YU,Qx,sv]|none=>
  rw[hfi]at hlk;simp only[Qm]at hlk;have hrm:¬D.room<=es.length:=by
   rcases hroom with h|h;.rw[hfi]at h;cases h
   .omega
  simp only[go_sem,↓dn,ZE,EO,hs,ht,hb,DR.cQ,hg,hm,hw,hp,wJ,ho,hu,hlk,hel,hnn,hr,he,hrm,n1,n2,n3,n4,n5,n6,n8,n10,n11,n12,n13,hus,hub,hup,Wv,Qj,sv]
end
structure iX(H:Heap)(p:Nat)(D:DR)(es:List (Nat×(Nat×Nat)))(us:List V):Prop where
 wf:H.wf
 hp:p<H.n
 hg:H.get p=D.cQ
 hm:H.get D.m=.map (cZ (dC es))nX:D.m<H.n
 wJ:D.m≠p
 Ed:(D.u=.aE/\us=[])\/∃ub n,D.u=.slice ub 0 n 0 3/\us.length=n*3/\0<n/\H.get ub=.cells us/\ub<H.n/\ub≠p/\ub≠D.m
 hl:nn D.len
 hr:nn D.room
 hf:nn D.aT
 he:es.length<9223372036854775808
theorem Heap.dN{H:Heap}{lo b:Nat}{x:eN}(h1:lo<=H.bD)(h2:lo<=b):lo<=(H.put b x).bD:=by
 by_cases h:H.wf/\b<H.n;.rw[Heap.El h.1 h.2];split<;>assumption
 .have e:H.put b x=H:=if_neg h;rw[e];exact h1
theorem Heap.mv{H:Heap}{lo:Nat}{x:eN}(h1:lo<=H.bD):lo<=(H.new x).bD:=h1
def DR.owns(D:DR)(p b:Nat):Prop:=b=p\/b=D.m\/∃o n c s,D.u=.slice b o n c s
def dh:List (Nat×(Nat×Nat))->Nat->(Nat×Nat)->List (Nat×(Nat×Nat))|[],a,v=>[(a,v)]|p::D,a,v=>if p.1=a then(p.1,v)::D else p::dh D a v
theorem qw:∀(D)(a)(v),Ch (dC D) a (sv v)=dC (dh D a v)
 |[],a,v=>rfl|p::D,a,v=>by
  have ih:=qw D a v;by_cases h:p.1=a;.simp[dC,Ch,dh,h]
  .simp only[dC,YP,Ch,dh,h,if_false];simp only[dC]at ih;rw[ih]
theorem mb:∀(D)(a)(v),(dh D a v).length=if(find D a).isSome=true then D.length else D.length+1
 |[],a,v=>rfl|p::D,a,v=>by
  have ih:=mb D a v;by_cases h:p.1=a
  .have hb:=by omega
   simp[dh,find,h]
  .have hb:=by omega
   have hf:find (p::D) a=find D a:=by simp[find,hb]
   rw[hf];simp only[dh,h,if_false,YH,ih];split<;>rfl
section
variable{cp:RC->au}{t:Nat->Option du}{fuel d:Nat}{H:Heap}{k:K}
theorem V0(T:TDisk t){p a x:Nat}{D:DR}{es:List (Nat×(Nat×Nat))}{us:List V}(h:iX H p D es us)(ho:D.off=false)(hf:D.aT≠1)(hub:us.length<3000000)(heb:es.length<1000000)(ha:a<D.len)(hroom:(find es a).isSome=true\/es.length<D.room):∃H' D',(∀(d:Nat)(k:K),aj (aS cp t fuel (d+3)) (.func 252 []) [.ptr p 0,.int 3 a,.str 32 x] H k=k (.int 3 0) H')/\iX H' p D' (dh es a (32,x)) (us++[.int 3 a,sv ((find es a).getD (0,0)),.bool (find es a).isSome])/\D'.m=D.m/\D'.len=D.len/\D'.room=D.room/\D'.aT=D.aT-1/\D'.off=false/\H.n<=H'.n/\(∀b,b<H.n->¬D.owns p b->H'.get b=H.get b/\¬D'.owns p b)/\(∀lo,lo<=H.bD->lo<=H.n->(∀b,D.owns p b->lo<=b)->lo<=H'.bD/\∀b,D'.owns p b->lo<=b):=by
 have hlen:=mb es a (32,x);have hle:(dh es a (32,x)).length<=es.length+1:=by rw[hlen];split<;>omega
 have hw:=h.wf;have hp:=h.hp;have nX:=h.nX;have hfb:nn (D.aT-1):=by have:=h.hf;unfold nn at*;omega
 have n1:=by omega
 have n2:¬p=H.n+1:=by omega
 have n3:=by omega
 have n4:¬D.m=H.n+1:=by omega
 have n5:p<H.n+1+1:=by omega
 have n6:D.m<H.n+1+1:=by omega
 have n7:¬p=D.m:=λe=>h.wJ e.symm;have hv:Ch (dC es) a (.str 32 x)=dC (dh es a (32,x)):=qw es a (32,x);rcases h.Ed with⟨hu,rfl⟩|⟨ub,n,hu,hus,hn0,hub',hubn,hup,hum⟩
 .refine⟨_,{D with aT:=D.aT-1,u:=.slice (H.n+1) 0 1 0 3,off:=false},λd k=>Lk T hw hp h.hg h.hm nX h.wJ ho hf h.hf h.hl h.hr h.he ha hroom hu,?_,rfl,rfl,rfl,rfl,rfl,?_,λb hb hno=>?_,λlo hlo hln hlO=>⟨?_,?_⟩⟩
  .refine⟨by simp only[Heap.bu,Heap.aY,hw],by simp only[Heap.aR,Heap.aK];omega,?_,?_,by simp only[Heap.aR,Heap.aK];exact n6,h.wJ,YD ⟨H.n+1,1,rfl,rfl,by omega,?_,by simp only[Heap.aR,Heap.aK];omega,λe=>n2 e.symm,λe=>n4 e.symm⟩,h.hl,h.hr,hfb,by omega⟩;.simp only[Heap.aC,Heap.aD,Heap.bu,Heap.aY,Heap.aR,Heap.aK,hw,hp,n5,n6,n7,if_false,if_true,ho]
   .simp only[Heap.aC,Heap.aD,Heap.bu,Heap.aY,Heap.aR,Heap.aK,hw,hp,n5,n6,if_true,hv]
   .have e1:¬H.n+1=D.m:=λe=>n4 e.symm;have e2:¬H.n+1=p:=λe=>n2 e.symm;simp only[Heap.aC,Heap.aD,Heap.bu,Heap.aY,Heap.aR,Heap.aK,hw,hp,n5,n6,e1,e2,if_false,if_true,YJ]
  .simp only[Heap.aR,Heap.aK];omega
  .have e1:¬b=D.m:=λe=>hno (YD (YF e));have e2:¬b=p:=λe=>hno (YF e);have e3:¬b=H.n:=by omega
   have e4:¬b=H.n+1:=by omega
   refine⟨by simp only[Heap.aC,Heap.aD,Heap.bu,Heap.aY,Heap.aR,Heap.aK,hw,hp,n5,n6,e1,e2,e3,e4,if_false],?_⟩;rintro(e|e|⟨o,m,c,s,e⟩);.exact e2 e
   .exact e1 e
   .simp only[V.slice.injEq]at e;omega
  .exact Heap.dN (Heap.dN (Heap.mv (Heap.mv (Heap.dN hlo (hlO _ (YF rfl))))) (hlO _ (YF rfl))) (hlO _ (YD (YF rfl)))
  .rintro b(e|e|⟨o,m,c,s,e⟩);.exact hlO b (YF e)
   .exact hlO b (YD (YF e))
   .simp only[V.slice.injEq]at e;omega
 .have n8:=by omega
  have n9:=by omega
  have n10:ub<H.n+1:=by omega
  have n12:¬p=ub:=λe=>hup e.symm;have n13:¬D.m=ub:=λe=>hum e.symm;refine⟨_,{D with aT:=D.aT-1,u:=.slice (H.n+1) 0 (n+1) 0 3,off:=false},λd k=>IH T hw hp h.hg h.hm nX h.wJ ho hf h.hf h.hl h.hr h.he ha hroom hu hus hn0 (by omega) hub' hubn hup hum,?_,rfl,rfl,rfl,rfl,rfl,?_,λb hb hno=>?_,λlo hlo hln hlO=>⟨?_,?_⟩⟩
  .refine⟨by simp only[Heap.bu,Heap.aY,hw],by simp only[Heap.aR,Heap.aK];omega,?_,?_,by simp only[Heap.aR,Heap.aK];exact n6,h.wJ,YD ⟨H.n+1,n+1,rfl,by simp;omega,by omega,?_,by simp only[Heap.aR,Heap.aK];omega,λe=>n2 e.symm,λe=>n4 e.symm⟩,h.hl,h.hr,hfb,by omega⟩;.simp only[Heap.aC,Heap.aD,Heap.bu,Heap.aY,Heap.aR,Heap.aK,hw,hp,n5,n6,n7,n10,if_false,if_true,ho]
   .simp only[Heap.aC,Heap.aD,Heap.bu,Heap.aY,Heap.aR,Heap.aK,hw,hp,n5,n6,n10,if_true,hv]
   .have e1:¬H.n+1=D.m:=λe=>n4 e.symm;have e2:¬H.n+1=p:=λe=>n2 e.symm;simp only[Heap.aC,Heap.aD,Heap.bu,Heap.aY,Heap.aR,Heap.aK,hw,hp,n5,n6,n10,e1,e2,if_false,if_true]
  .simp only[Heap.aR,Heap.aK];omega
  .have e1:¬b=D.m:=λe=>hno (YD (YF e));have e2:¬b=p:=λe=>hno (YF e);have e3:¬b=H.n:=by omega
   have e4:¬b=H.n+1:=by omega
   have e5:¬b=ub:=λe=>hno (YD (YD ⟨0,n,0,3,by rw[hu,e]⟩));refine⟨by simp only[Heap.aC,Heap.aD,Heap.bu,Heap.aY,Heap.aR,Heap.aK,hw,hp,n5,n6,n10,e1,e2,e3,e4,e5,if_false],?_⟩;rintro(e|e|⟨o,m,c,s,e⟩);.exact e2 e
   .exact e1 e
   .simp only[V.slice.injEq]at e;omega
  .exact Heap.dN (Heap.dN (Heap.mv (Heap.dN (Heap.mv (Heap.dN hlo (hlO _ (YF rfl)))) (hlO _ (YD (YD ⟨0,n,0,3,hu⟩))))) (hlO _ (YF rfl))) (hlO _ (YD (YF rfl)))
  .rintro b(e|e|⟨o,m,c,s,e⟩);.exact hlO b (YF e)
   .exact hlO b (YD (YF e))
   .simp only[V.slice.injEq]at e;omega
structure TDisk2(t:Nat->Option du):Prop extends TDisk t where flush:t 127=some (.code [s000] [.tmp s002] XC)read:t 83=some (.code [s000,s001] [.tmp s004,.tmp s005] c83)len:t 44=some (.code [s000] [.tmp s002] c44)on:t 103=some (.code [s000] [.tmp s002] ab0)
variable(T:TDisk2 t)
include T
theorem Um{p}{D:DR}(hw:H.wf)(hp:p<H.n)(hg:H.get p=D.cQ):aj (aS cp t fuel (d+1)) (.func 88 []) [.ptr p 0] H k=k (.int 3 D.len) H:=by rw[ax T.len rfl rfl];simp only[go_sem,c44,DR.cQ,hg]
theorem Zf{p}{D:DR}(hw:H.wf)(hp:p<H.n)(hg:H.get p=D.cQ):aj (aS cp t fuel (d+2)) (.func 206 []) [.ptr p 0] H k=k (.bool (!D.off)) H:=by have hs:∀{k},aj (aS cp t fuel (d+1)) (.func 142 []) [.ptr p 0] H k=k (.int 3 (if D.off=true then 6 else 0)) H:=λ{k}=>eh T.toTDisk hw hp hg;rw[ax T.on rfl rfl];cases ho:D.off<;>rw[ho]at hs<;>simp only[YV,if_false,if_true]at hs<;>simp only[go_sem,ab0,hs]
theorem JX{p}{D:DR}(hw:H.wf)(hp:p<H.n)(hg:H.get p=D.cQ)(ho:D.off=false)(hf:D.aT≠1)(hfb:nn D.aT):aj (aS cp t fuel (d+3)) (.func 254 []) [.ptr p 0] H k=k (.int 3 0) (H.put p {D with aT:=D.aT-1,u:=.aE}.cQ):=by
 have hs:∀{k},aj (aS cp t fuel (d+2)) (.func 142 []) [.ptr p 0] H k=k (.int 3 0) H:=λ{k}=>by rw[eh T.toTDisk hw hp hg,ho];rfl
 have hb:∀{k},aj (aS cp t fuel (d+2)) (.func 306 []) [.ptr p 0] H k=k (.int 3 0) (H.put p {D with aT:=D.aT-1}.cQ):=λ{k}=>uh T.toTDisk hw hp hg ho hf hfb;rw[ax T.flush rfl rfl];simp only[go_sem,XC,hs,hb,DR.cQ,hw,hp,ho]
set_option maxRecDepth 4000in theorem Pz{p a}{D:DR}{es}(hw:H.wf)(hp:p<H.n)(hg:H.get p=D.cQ)(hm:H.get D.m=.map (cZ (dC es)))(ho:D.off=false)(hl:nn D.len)(ha:a<D.len):aj (aS cp t fuel (d+3)) (.func 166 []) [.ptr p 0,.int 3 a] H k=k (.cG [sv ((find es a).getD (32,0)),.int 3 0]) (if(find es a).isSome=true then H else H.new (.bytes 32 0)):=by
 have hs:∀{k},aj (aS cp t fuel (d+2)) (.func 142 []) [.ptr p 0] H k=k (.int 3 0) H:=λ{k}=>by rw[eh T.toTDisk hw hp hg,ho];rfl
 have ht:∀{k},aj (aS cp t fuel (d+2)) (.func 238 []) [.ptr p 0,.int 3 a] H k=k (.bool true) H:=λ{k}=>by rw[jq T.toTDisk hw hp hg hl (by unfold nn at hl;omega),decide_eq_true ha]
 have hlk:=lu es a;rw[ax T.read rfl rfl];cases hfi:find es a with|some q=>rw[hfi]at hlk;simp only[Wq,sv]at hlk;simp only[go_sem,c83,hs,ht,DR.cQ,hg,hm,ho,hlk,YU,Qx,sv]|none=>rw[hfi]at hlk;simp only[Qm]at hlk;simp only[go_sem,c83,hs,ht,DR.cQ,hg,hm,hw,ho,hlk,Wv,Qj,sv]
end
section
variable{cp:RC->au}{t:Nat->Option du}{fuel d:Nat}{k:K}
theorem yB{ph}{kx}{b off n c s}{f}{Hs:Nat->Heap}{row}(hn:n<9223372036854775808)(hrow:∀i,i<n->(Hs i).get b=.cells row)(hlen:off+n<=row.length)(hf:∀i v,i<n->row[off+i]?=some v->∀k:K,aj ph f [v] (Hs i) k=k (.bool false) (Hs (i+1))):∀(m i r)(e),i+m=n->m<r->af s000 e=.slice b off n c s->af s001 e=f->af s007 e=.int 3 n->af s010 e=.int 3 i->∀x:R,(∀e',kx 1 e' (Hs n)=x)->kq Cz fuel ph kx r e (Hs i)=x:=by
 have hnn:=n_ n;intro m;induction m with|zero=>
  intro i r e hi hr h0 h1 h7 h10 x hx;obtain⟨r,rfl⟩:=s_ r;have hi':i=n:=by omega
  subst hi';have hlt:¬i<i:=by omega
  rw[ak];simp only[go_sem,Cz,h7,h10,hnn,hlt];exact hx _|succ m ih=>
  intro i r e hi hr h0 h1 h7 h10 x hx;obtain⟨r,rfl⟩:=s_ r;have hlt:i<n:=by omega
  have hin:=n_ i;have hib:=l_ i;have hv:row[off+i]?=some row[off+i]:=YA (by omega);have hnth:∀{id}{k},nth id row (off+i) k=k row[off+i]:=gY hv;have hc:=hf i _ hlt hv;have hadd:=m_ (i+1);rw[ak];simp only[go_sem,Cz,h0,h1,h7,h10,hnn,hin,hlt,hib,hnth,hrow i hlt,hc,hadd];refine ih (i+1) r _ (by omega) (by omega) ?_ ?_ ?_ ?_ x hx<;>simp only[go_sem,h0,h1,h7]
theorem At{b off n c s}{f}{Hs:Nat->Heap}{row}(h1:t 157=some (.code [s000,s001] [.tmp s004] XF))(h2:t 142=some (.code [s000,s001] [.tmp s004] XE))(hn:n<9223372036854775808)(hfu:n<fuel)(hrow:∀i,i<n->(Hs i).get b=.cells row)(hlen:off+n<=row.length)(hf:∀i v,i<n->row[off+i]?=some v->∀k:K,aj (aS cp t fuel d) f [v] (Hs i) k=k (.bool false) (Hs (i+1))):aj (aS cp t fuel (d+2)) (.func 284 []) [.slice b off n c s,f] (Hs 0) k=k (.bool false) (Hs n):=by
 have hi:∀{k},aj (aS cp t fuel (d+1)) (.func 314 []) [.slice b off n c s,f] (Hs 0) k=k (.int 3 18446744073709551615) (Hs n):=λ{k}=>by rw[ax h1 rfl rfl];simp only[go_sem,XF,hn];refine yB (c:=c) (s:=s) hn hrow hlen hf n 0 fuel _ (by omega) hfu ?_ ?_ ?_ ?_ _ λe'=>?_<;>simp only[go_sem]
 have h5:(ej (.ge 9223372036854775808 18446744073709551616) 18446744073709551615 0=true)=False:=by rw[Fs];simp
 rw[ax h2 rfl rfl];simp only[go_sem,XE,hi,h5]
end
def uw(D:List (Nat×Nat)):List (Nat×V):=D.map λp=>(p.1,.int 3 p.2)
def F4(D:List (Nat×Nat))(a:Nat):Option Nat:=(D.find? λp=>p.1==a).map (·.2)
def tW:List (Nat×Nat)->Nat->Nat->List (Nat×Nat)|[],a,v=>[(a,v)]|p::D,a,v=>if p.1=a then(p.1,v)::D else p::tW D a v
theorem GU:∀(D)(a),Y5 (uw D) a=(F4 D a).map (V.int 3)|[],a=>rfl|p::D,a=>by have ih:=GU D a;unfold Y5 F4 uw at*;simp only[YP,Qc];cases h:p.1==a with|true=>rfl|false=>omega
theorem zZ:∀(D)(a v),Ch (uw D) a (.int 3 v)=uw (tW D a v)
 |[],a,v=>rfl|p::D,a,v=>by
  have ih:=zZ D a v;by_cases h:p.1=a;.simp[uw,Ch,tW,h]
  .simp only[uw,YP,Ch,tW,h,if_false];simp only[uw]at ih;rw[ih]
def xO(D:List (Nat×Nat))(a:Nat):List (Nat×Nat):=tW D a (((F4 D a).getD 0+1)%18446744073709551616)
section
variable{cp:RC->au}{t:Nat->Option du}{fuel d:Nat}{H:Heap}{k:K}
structure TDisk3(t:Nat->Option du):Prop extends TDisk2 t where fits:t 112=some (.code [s000,s001] [.tmp s004] ND)fits1:t 141=some (.code [s000,s001,s002] [.tmp s004] Sl)index:t 157=some (.code [s000,s001] [.tmp s004] XF)contains:t 142=some (.code [s000,s001] [.tmp s004] XE)
variable(T:TDisk3 t)
include T
set_option maxRecDepth 4000in theorem JU{p a B0 B1 M}{D:DR}{es:List (Nat×(Nat×Nat))}{fr:List (Nat×Nat)}(hw:H.wf)(hp:p<H.n)(hg:H.get p=D.cQ)(hm:H.get D.m=.map (cZ (dC es)))(h0:H.get B0=.cells [.ptr p 0])(h1:H.get B1=.cells [.map M])(hM:H.get M=.map (cZ (uw fr)))(hMn:M<H.n)(hd0:p≠M)(hd1:D.m≠M)(hd2:B0≠M)(hd3:B1≠M)(hl:nn D.len)(ha:a<18446744073709551616):aj (aS cp t fuel (d+2)) (.func 282 [.ptr B0 0,.ptr B1 0]) [.int 3 a] H k=k (.bool (!decide (a<D.len))) (if(find es a).isSome=true then H else H.put M (.map (cZ (uw (xO fr a))))):=by have ht:∀{k},aj (aS cp t fuel (d+1)) (.func 238 []) [.ptr p 0,.int 3 a] H k=k (.bool (decide (a<D.len))) H:=λ{k}=>jq T.toTDisk hw hp hg hl ha;have ht2:∀{x}{k},aj (aS cp t fuel (d+1)) (.func 238 []) [.ptr p 0,.int 3 a] (H.put M x) k=k (.bool (decide (a<D.len))) (H.put M x):=λ{x k}=>jq T.toTDisk (by rw[Heap.bu];omega) (by rw[Heap.aR];omega) (by rw[Heap.aC hw hMn,if_neg hd0];omega) hl ha;have hlk:=lu es a;have hlc:=GU fr a;rw[ax T.fits1 rfl rfl];cases hfi:find es a with|some q=>rw[hfi]at hlk;simp only[Wq,sv]at hlk;simp only[go_sem,Sl,ht,DR.cQ,hg,hm,hw,h0,h1,hlk,Qx]|none=>rw[hfi]at hlk;simp only[Qm]at hlk;cases hfc:F4 fr a with|some q=>rw[hfc]at hlc;simp only[Wq]at hlc;have hu:=zZ fr a ((q+1)%18446744073709551616);simp only[go_sem,Sl,ht2,DR.cQ,hg,hm,hw,h0,h1,hM,hMn,hd2,hlk,hlc,hu,xO,hfc,Qj,YU]|none=>rw[hfc]at hlc;simp only[Qm]at hlc;have hu:=zZ fr a 1;simp only[go_sem,Sl,ht2,DR.cQ,hg,hm,hw,h0,h1,hM,hMn,hd2,hlk,hlc,hu,xO,hfc,Qj,Wv]
omit T in def vN(es:List (Nat×(Nat×Nat)))(ns:List Nat):Nat->List (Nat×Nat)|0=>[]|i+1=>if(find es (ns.getD i 0)).isSome=true then vN es ns i else xO (vN es ns i) (ns.getD i 0)
noncomputable def C7(es:List (Nat×(Nat×Nat)))(ns:List Nat)(G:Heap)(M:Nat):Nat->Heap|0=>G|i+1=>if(find es (ns.getD i 0)).isSome=true then C7 es ns G M i else(C7 es ns G M i).put M (.map (cZ (uw (vN es ns (i+1)))))
omit T in theorem T5{es}{ns}{G}{M}(hw:G.wf)(hM:M<G.n)(h0:G.get M=.map []):∀i,(C7 es ns G M i).wf/\(C7 es ns G M i).n=G.n/\(C7 es ns G M i).get M=.map (cZ (uw (vN es ns i)))/\∀b,b≠M->(C7 es ns G M i).get b=G.get b
 |0=>⟨hw,rfl,h0,λ_ _=>rfl⟩|i+1=>by
  obtain⟨g1,g2,g3,g4⟩:=T5 hw hM h0 i;simp only[C7];by_cases h:(find es (ns.getD i 0)).isSome=true;.simp only[if_pos h,vN];exact⟨g1,g2,g3,g4⟩
  .rw[if_neg h];have hn:M<(C7 es ns G M i).n:=by omega
   exact⟨by rw[Heap.bu];omega,by rw[Heap.aR];omega,by rw[Heap.aC g1 hn,if_pos rfl],λb hb=>by rw[Heap.aC g1 hn,if_neg hb];simp_all⟩
omit T in theorem wv:∀(D)(a v),(tW D a v).length<=D.length+1|[],a,v=>by simp[tW]|p::D,a,v=>by have:=wv D a v;simp only[tW];split<;>simp<;>omega
omit T in theorem yv{es}{ns}:∀i,(vN es ns i).length<=i
 |0=>YC _|i+1=>by
  have:=yv (es:=es) (ns:=ns) i;simp only[vN];split;.omega
  .have:=wv (vN es ns i) (ns.getD i 0) (((F4 (vN es ns i) (ns.getD i 0)).getD 0+1)%18446744073709551616);unfold xO;omega
omit T in theorem JR{es}{ns}{G}{M lo}(h1:lo<=G.bD)(h2:lo<=M):∀i,lo<=(C7 es ns G M i).bD
 |0=>h1|i+1=>by
  simp only[C7];split;.exact JR h1 h2 i
  .exact Heap.dN (JR h1 h2 i) h2
set_option maxRecDepth 4000in theorem OB{p b off c s:Nat}{D:DR}{es:List (Nat×(Nat×Nat))}{ns:List Nat}{row:List V}(hw:H.wf)(hp:p<H.n)(hg:H.get p=D.cQ)(hm:H.get D.m=.map (cZ (dC es)))(nX:D.m<H.n)(hb:H.get b=.cells row)(hbn:b<H.n)(ho:D.off=false)(hl:nn D.len)(hr:nn D.room)(hlen:off+ns.length<=row.length)(hrow:∀i v,ns[i]?=some v->row[off+i]?=some (.int 3 v))(hns:∀v∈ns,v<D.len)(hnb:ns.length<1000000)(heb:es.length<1000000)(hfu:ns.length<fuel):∃H',(∀(d:Nat)(k:K),aj (aS cp t fuel (d+5)) (.func 224 []) [.ptr p 0,.slice b off ns.length c s] H k=k (.bool (decide ((vN es ns ns.length).length=0\/es.length+(vN es ns ns.length).length<=D.room))) H')/\H'.wf/\H.n<=H'.n/\(∀j,j<H.n->H'.get j=H.get j)/\∀lo,lo<=H.bD->lo<=H.n->lo<=H'.bD:=by
 have n1:¬p=H.n:=by omega
 have n2:¬p=H.n+1:=by omega
 have n3:=by omega
 have n4:¬D.m=H.n+1:=by omega
 have n5:=by omega
 have n6:=by omega
 have n7:=by omega
 have n8:¬b=H.n+1:=by omega
 have n9:=by omega
 have m1:¬H.n=H.n+1:=by omega
 have m2:¬H.n=H.n+1+1:=by omega
 have m3:¬H.n+1=H.n+1+1:=by omega
 have m4:¬H.n+1+1=H.n+1:=by omega
 have m5:¬H.n+1+1=H.n:=by omega
 have m6:H.n+1+1<H.n+1+1+1:=by omega
 have m7:¬H.n+1=H.n:=by omega
 generalize hG:(((H.new (.cells [.ptr p 0])).new (.map [])).new (.cells [.wK])).put (H.n+1+1) (.cells [.map (H.n+1)])=G;have gw:G.wf:=by rw[<-hG];simp only[Heap.bu,Heap.aY,hw]
 have gn:G.n=H.n+1+1+1:=by rw[<-hG];simp only[Heap.aR,Heap.aK]
 have gM:G.get (H.n+1)=.map []:=by rw[<-hG];simp only[Heap.aC,Heap.aD,Heap.aY,Heap.aK,hw,m6,m3,m7,if_false,if_true]
 have g0:G.get H.n=.cells [.ptr p 0]:=by rw[<-hG];simp only[Heap.aC,Heap.aD,Heap.aY,Heap.aK,hw,m6,m1,m2,if_false,if_true]
 have g1:G.get (H.n+1+1)=.cells [.map (H.n+1)]:=by rw[<-hG];simp only[Heap.aC,Heap.aD,Heap.aY,Heap.aK,hw,m6,if_true]
 have gold:∀j,j<H.n->G.get j=H.get j:=λj hj=>by
  have e1:¬j=H.n:=by omega
  have e2:¬j=H.n+1:=by omega
  have e3:¬j=H.n+1+1:=by omega
  rw[<-hG];simp only[Heap.aC,Heap.aD,Heap.aY,Heap.aK,hw,m6,e1,e2,e3,if_false]
 have hF:=T5 (es:=es) (ns:=ns) gw (by rw[gn];omega) gM;obtain⟨f1,f2,f3,f4⟩:=hF ns.length;have hlF:=yv (es:=es) (ns:=ns) ns.length;have hc:∀{d}{k},aj (aS cp t fuel (d+4)) (.func 284 []) [.slice b off ns.length c s,.func 282 [.ptr H.n 0,.ptr (H.n+1+1) 0]] G k=k (.bool false) (C7 es ns G (H.n+1) ns.length):=λ{d k}=>by
  refine At (Hs:=C7 es ns G (H.n+1)) T.index T.contains (by omega) hfu (λi hi=>?_) hlen (λi v hi hv k=>?_);.rw[(hF i).2.2.2 b n8,gold b hbn];exact hb
  .obtain⟨q1,q2,q3,q4⟩:=hF i;have hvi:ns[i]?=some ns[i]:=YA hi;have hvn:ns.getD i 0=ns[i]:=by rw[List.getD_eq_getElem?_getD,hvi];rfl
   have hv':=hrow i _ hvi;rw[hv]at hv';cases hv';have hlt:=hns _ (List.getElem_mem hi);rw[JU T q1 (by rw[q2,gn];omega) (by rw[q4 p n2,gold p hp];exact hg) (by rw[q4 D.m n4,gold D.m nX];exact hm) (by rw[q4 _ m1];exact g0) (by rw[q4 _ m4];exact g1) q3 (by rw[q2,gn];omega) n2 n4 m1 m4 hl (by unfold nn at hl;omega)];rw[decide_eq_true hlt];simp only[C7,vN,hvn,Bool.not_true];by_cases h:(find es ns[i]).isSome=true;.rw[if_pos h,if_pos h]
   .rw[if_neg h,if_neg h,if_neg h]
 have hs:∀{d}{k},aj (aS cp t fuel (d+4)) (.func 142 []) [.ptr p 0] (H.new (.cells [.ptr p 0])) k=k (.int 3 0) (H.new (.cells [.ptr p 0])):=λ{d k}=>by rw[eh T.toTDisk (by simp only[Heap.aY,hw]) (by simp only[Heap.aK];omega) (by rw[Heap.aD hw,if_neg n1];exact hg),ho];rfl
 generalize hFn:(vN es ns ns.length).length=F at hlF;have hFl:(cZ (uw (vN es ns ns.length))).length=F:=by simp only[cZ,uw,List.length_map,hFn]
 have hel:(cZ (dC es)).length=es.length:=by simp[cZ,dC]
 have hFnn:=n_ F;have hFb:=l_ F;have heb':=l_ es.length;have hp':(C7 es ns G (H.n+1) ns.length).get p=D.cQ:=by rw[f4 p n2,gold p hp];exact hg
 have hm':(C7 es ns G (H.n+1) ns.length).get D.m=.map (cZ (dC es)):=by rw[f4 _ n4,gold _ nX];exact hm
 have h0':(C7 es ns G (H.n+1) ns.length).get H.n=.cells [.ptr p 0]:=by rw[f4 _ m1];exact g0
 have h1':(C7 es ns G (H.n+1) ns.length).get (H.n+1+1)=.cells [.map (H.n+1)]:=by rw[f4 _ m4];exact g1
 refine⟨C7 es ns G (H.n+1) ns.length,λd k=>?_,f1,by rw[f2,gn];omega,λj hj=>by rw[f4 j (by omega),gold j hj],λlo h1 h2=>JR (by rw[<-hG];exact Heap.dN (Heap.mv (Heap.mv (Heap.mv h1))) (by omega)) (by omega) _⟩;rw[ax T.fits rfl rfl];generalize C7 es ns G (H.n+1) ns.length=G' at*;by_cases hz:F=0;.simp only[go_sem,ZE,ND,hs,hw,m6,hG,hc,h1',f3,hFl,hz,decide_true,true_or]
 .by_cases hle:es.length<=D.room
  .have e1:nn (D.room-es.length):=by unfold nn at*;omega
   have e2:(F<=D.room-es.length)=(es.length+F<=D.room):=propext ⟨λh=>by omega,λh=>by omega⟩;by_cases hh:es.length+F<=D.room;.simp only[go_sem,ZE,ND,hs,hw,m6,hG,hc,h1',h0',f3,hp',hm',DR.cQ,hFl,hFb,hel,heb',hFnn,hz,hle,hr,e1,e2,hh,decide_true,false_or]
   .simp only[go_sem,ZE,ND,hs,hw,m6,hG,hc,h1',h0',f3,hp',hm',DR.cQ,hFl,hFb,hel,heb',hFnn,hz,hle,hr,e1,e2,hh,decide_false,false_or]
  .have hh:¬es.length+F<=D.room:=by omega
   have e3:(ej (.le 9223372036854775808 18446744073709551616) F ((D.room+(18446744073709551616-es.length))%18446744073709551616)=true)=False:=by rw[Ft];unfold nn at hr;exact propext ⟨λh=>by omega,False.elim⟩
   simp only[go_sem,ZE,ND,hs,hw,m6,hG,hc,h1',h0',f3,hp',hm',DR.cQ,hFl,hFb,hel,heb',hz,hh,e3,decide_false,false_or]
end
section
variable{cp:RC->au}{t:Nat->Option du}{fuel d:Nat}{H:Heap}{k:K}
abbrev aM(t:Nat->Option du):Prop:=t=t
structure jW(t:Nat->Option du):Prop extends TDisk3 t where new:t 19=some (.code [s000,s001] [.tmp s004] c19)
variable(T:jW t)
include T
theorem UC{n r}(hw:H.wf)(h1:1<=n)(h2:n<=1024)(hr:nn r):aj (aS cp t fuel (d+1)) (.func 38 []) [.int 3 n,.int 3 r] H k=k (.ptr (H.n+1) 0) ((H.new (.map [])).new (DR.mk H.n .aE n r 0 false).cQ):=by
 have h5:nn 0:=by unfold nn;simp
 have h6:nn 1:=by unfold nn;simp
 have h7:nn 1024:=by unfold nn;simp
 have h8:=n_ n;have e1:¬n<1:=by omega
 have e2:¬1024<n:=by omega
 have e3:¬r<0:=by omega
 rw[ax T.new rfl rfl];simp only[go_sem,c19,DR.cQ,hw,hr,h5,h6,h7,h8,e1,e2,e3]
end
abbrev Tx:=Nat×Nat
structure AD where
 len:Nat
 room:Nat
 aT:Nat
 off:Bool
 es:List (Nat×Tx)us:List (Nat×Tx×Bool)
def TP(u:Nat×Tx×Bool):List V:=[.int 3 u.1,sv u.2.1,.bool u.2.2]
def fB(us:List (Nat×Tx×Bool)):List V:=us.flatMap TP
theorem dX(us):(fB us).length=us.length*3:=by induction us with|nil=>rfl|cons u us ih=>simp only[fB,Wa,YB,YH]at ih⊢;simp only[TP,YH,YS];omega
def cB(H:Heap)(p:Nat)(A:AD)(O:Nat->Prop):Prop:=∃D:DR,iX H p D A.es (fB A.us)/\D.len=A.len/\D.room=A.room/\D.aT=A.aT/\D.off=A.off/\O=D.owns p
structure Step(H:Heap)(O:Nat->Prop)(H':Heap)(O':Nat->Prop):Prop where
 wf:H'.wf
 n:H.n<=H'.n
 same:∀b,b<H.n->¬O b->H'.get b=H.get b/\¬O' b
 lo:∀lo,lo<=H.bD->lo<=H.n->(∀b,O b->lo<=b)->lo<=H'.bD/\∀b,O' b->lo<=b
theorem Step.refl{H:Heap}{O:Nat->Prop}(h:H.wf):Step H O H O:=⟨h,YC _,λ_ _ h=>⟨rfl,h⟩,λ_ h _ h'=>⟨h,h'⟩⟩
theorem Step.trans{H H1 H2:Heap}{O O1 O2:Nat->Prop}(h:Step H O H1 O1)(g:Step H1 O1 H2 O2):Step H O H2 O2:=⟨g.wf,Yr h.n g.n,λb hb ho=>let⟨e,o⟩:=h.same b hb ho;let⟨e',o'⟩:=g.same b (YE hb h.n) o;⟨e'.trans e,o'⟩,λlo h1 h2 h3=>let⟨e,o⟩:=h.lo lo h1 h2 h3;g.lo lo e (Yr h2 h.n) o⟩
structure ah(H H':Heap):Prop where
 wf:H'.wf
 n:H.n<=H'.n
 same:∀b,b<H.n->H'.get b=H.get b
 lo:∀lo,lo<=H.bD->lo<=H.n->lo<=H'.bD
theorem ah.refl{H:Heap}(h:H.wf):ah H H:=⟨h,YC _,λ_ _=>rfl,λ_ h _=>h⟩
theorem ah.trans{H H1 H2:Heap}(h:ah H H1)(g:ah H1 H2):ah H H2:=⟨g.wf,Yr h.n g.n,λb hb=>(g.same b (YE hb h.n)).trans (h.same b hb),λlo h1 h2=>g.lo lo (h.lo lo h1 h2) (Yr h2 h.n)⟩
theorem ah.new{H:Heap}{x:eN}(h:H.wf):ah H (H.new x):=⟨by rw[Heap.aY];exact h,by rw[Heap.aK];omega,λb hb=>by rw[Heap.aD h,if_neg (by omega)],λ_ h _=>h⟩
theorem ah.put{H H1:Heap}{b:Nat}{x:eN}(h:ah H H1)(h1:H.n<=b)(h2:b<H1.n):ah H (H1.put b x):=⟨by rw[Heap.bu];exact h.wf,by rw[Heap.aR];exact h.n,λj hj=>by rw[Heap.aC h.wf h2,if_neg (by omega)];exact h.same j hj,λlo h3 h4=>Heap.dN (h.lo lo h3 h4) (by omega)⟩
theorem ah.step{H H':Heap}{O:Nat->Prop}(h:ah H H'):Step H O H' O:=⟨h.wf,h.n,λb hb ho=>⟨h.same b hb,ho⟩,λlo h1 h2 h3=>⟨h.lo lo h1 h2,h3⟩⟩
theorem cB.wf{H:Heap}{p:Nat}{A:AD}{O:Nat->Prop}(h:cB H p A O):H.wf:=let⟨_,h,_⟩:=h;h.wf
theorem cB.lt{H:Heap}{p:Nat}{A:AD}{O:Nat->Prop}(h:cB H p A O):∀b,O b->b<H.n:=by
 obtain⟨D,h,_,_,_,_,rfl⟩:=h;rintro b(e|e|⟨o,m,c,s,e⟩);.rw[e];exact h.hp
 .rw[e];exact h.nX
 .rcases h.Ed with⟨hu,_⟩|⟨ub,n,hu,_,_,_,hub,_⟩;.rw[hu]at e;cases e
  .rw[hu]at e;cases e;exact hub
theorem cB.bU{H H':Heap}{p:Nat}{A:AD}{O Q Q':Nat->Prop}(h:cB H p A O)(s:Step H Q H' Q')(hd:∀b,O b->¬Q b):cB H' p A O/\∀b,O b->¬Q' b:=by
 refine⟨?_,λb hb=>(s.same b (h.lt b hb) (hd b hb)).2⟩;obtain⟨D,h,h1,h2,h3,h4,rfl⟩:=h;refine⟨D,⟨s.wf,YE h.hp s.n,?_,?_,YE h.nX s.n,h.wJ,?_,h.hl,h.hr,h.hf,h.he⟩,h1,h2,h3,h4,rfl⟩;.rw[(s.same p h.hp (hd p (YF rfl))).1];exact h.hg
 .rw[(s.same _ h.nX (hd _ (YD (YF rfl)))).1];exact h.hm
 .rcases h.Ed with hu|⟨ub,n,hu,g1,g2,g3,g4,g5⟩;.exact YF hu
  .exact YD ⟨ub,n,hu,g1,g2,by rw[(s.same ub g4 (hd ub (YD (YD ⟨_,_,_,_,hu⟩)))).1];exact g3,YE g4 s.n,g5⟩
theorem cB.fresh{H H':Heap}{p:Nat}{A:AD}{O:Nat->Prop}(h:cB H p A O)(s:ah H H'):cB H' p A O:=(h.bU (Q:=λ_=>False) (s.step) λ_ _ h=>h).1
theorem cB.own{H:Heap}{p:Nat}{A:AD}{O:Nat->Prop}(h:cB H p A O):O p:=by obtain⟨D,h,_,_,_,_,rfl⟩:=h;exact YF rfl
def AD.JF(A:AD):AD:={A with aT:=0,off:=true}
def AD.write(A:AD)(a:Nat)(x:Nat):AD×Nat:=if A.aT=1then(A.JF,6)else({A with aT:=A.aT-1,us:=A.us++[(a,(find A.es a).getD (0,0),(find A.es a).isSome)],es:=dh A.es a (32,x)},0)
def AD.flush(A:AD):AD×Nat:=if A.aT=1then(A.JF,6)else({A with aT:=A.aT-1,us:=[]},0)
def AD.read(A:AD)(a:Nat):Tx:=(find A.es a).getD (32,0)
section
variable{cp:RC->au}{t:Nat->Option du}{fuel:Nat}{H:Heap}
theorem EN(T:jW t){p d}{D:DR}{k}(hw:H.wf)(hp:p<H.n)(hg:H.get p=D.cQ)(hf:D.aT=1):aj (aS cp t fuel (d+2)) (.func 306 []) [.ptr p 0] H k=k (.int 3 6) (H.put p {D with aT:=0,off:=true}.cQ):=by
 have h5:nn 0:=by unfold nn;simp
 have hs:∀{k},aj (aS cp t fuel (d+1)) (.func 142 []) [.ptr p 0] (H.put p {D with aT:=0,off:=true}.cQ) k=k (.int 3 6) (H.put p {D with aT:=0,off:=true}.cQ):=λ{k}=>by rw[eh T.toTDisk (by rw[Heap.bu];omega) (by rw[Heap.aR];omega) (by rw[Heap.aC hw hp,if_pos rfl])];rfl
 have ho:∀{x}{k},x={D with aT:=0}.cQ->aj (aS cp t fuel (d+1)) (.func 52 []) [.ptr p 0] (H.put p x) k=k (.cG []) (H.put p {D with aT:=0,off:=true}.cQ):=λ{x k}hx=>by rw[UI T.toTDisk (by rw[Heap.bu];omega) (by rw[Heap.aR];omega) (by rw[Heap.aC hw hp,if_pos rfl];omega),Heap.jz]
 have ho':=λ{k}=>ho (k:=k) rfl;simp only[DR.cQ]at hs ho';rw[ax T.abY rfl rfl];have h4:max 0 0=0:=rfl;simp only[go_sem,Sm,DR.cQ,hg,hw,hp,hf,h4,h5,hs,ho']
theorem Rc(T:jW t){p d a x}{D:DR}{es}{k}(hw:H.wf)(hp:p<H.n)(hg:H.get p=D.cQ)(hm:H.get D.m=.map (cZ (dC es)))(nX:D.m<H.n)(wJ:D.m≠p)(ho:D.off=false)(hf:D.aT=1)(hl:nn D.len)(hr:nn D.room)(he:es.length<9223372036854775808)(ha:a<D.len)(hroom:(find es a).isSome=true\/es.length<D.room):aj (aS cp t fuel (d+3)) (.func 252 []) [.ptr p 0,.int 3 a,.str 32 x] H k=k (.int 3 6) (H.put p {D with aT:=0,off:=true}.cQ):=by
 have hs:∀{k},aj (aS cp t fuel (d+2)) (.func 142 []) [.ptr p 0] H k=k (.int 3 0) H:=λ{k}=>by rw[eh T.toTDisk hw hp hg,ho];rfl
 have ht:∀{k},aj (aS cp t fuel (d+2)) (.func 238 []) [.ptr p 0,.int 3 a] H k=k (.bool true) H:=λ{k}=>by rw[jq T.toTDisk hw hp hg hl (by unfold nn at hl;omega),decide_eq_true ha]
 have hb:∀{k},aj (aS cp t fuel (d+2)) (.func 306 []) [.ptr p 0] H k=k (.int 3 6) (H.put p {D with aT:=0,off:=true}.cQ):=λ{k}=>EN T hw hp hg hf;rw[ax T.write rfl rfl];have hlk:=lu es a;have hel:(cZ (dC es)).length=es.length:=by simp[cZ,dC]
 have hnn:=n_ es.length;cases hfi:find es a with|some q=>rw[hfi]at hlk;simp only[Wq,sv]at hlk;simp only[go_sem,ZE,EO,hs,ht,hb,DR.cQ,hg,hm,ho,hlk]|none=>
  rw[hfi]at hlk;simp only[Qm]at hlk;have hrm:¬D.room<=es.length:=by
   rcases hroom with h|h;.rw[hfi]at h;cases h
   omega
  simp only[go_sem,ZE,EO,hs,ht,hb,DR.cQ,hg,hm,ho,hlk,hel,hnn,hr,he,hrm]
theorem OD(T:jW t){p d}{D:DR}{k}(hw:H.wf)(hp:p<H.n)(hg:H.get p=D.cQ)(ho:D.off=false)(hf:D.aT=1):aj (aS cp t fuel (d+3)) (.func 254 []) [.ptr p 0] H k=k (.int 3 6) (H.put p {D with aT:=0,off:=true}.cQ):=by
 have hs:∀{k},aj (aS cp t fuel (d+2)) (.func 142 []) [.ptr p 0] H k=k (.int 3 0) H:=λ{k}=>by rw[eh T.toTDisk hw hp hg,ho];rfl
 have hb:∀{k},aj (aS cp t fuel (d+2)) (.func 306 []) [.ptr p 0] H k=k (.int 3 6) (H.put p {D with aT:=0,off:=true}.cQ):=λ{k}=>EN T hw hp hg hf;rw[ax T.flush rfl rfl];simp only[go_sem,XC,hs,hb,DR.cQ]
theorem cB.put{p:Nat}{D:DR}{es:List (Nat×Tx)}{us:List V}(h:iX H p D es us){r f:Nat}{o:Bool}(hr:nn r)(hf:nn f):iX (H.put p {D with room:=r,aT:=f,off:=o}.cQ) p {D with room:=r,aT:=f,off:=o} es us/\Step H (D.owns p) (H.put p {D with room:=r,aT:=f,off:=o}.cQ) (D.owns p):=by
 have hw:=h.wf;have hp:=h.hp;have e1:∀b,b≠p->(H.put p {D with room:=r,aT:=f,off:=o}.cQ).get b=H.get b:=λb hb=>by rw[Heap.aC hw hp,if_neg hb]
 refine⟨⟨by rw[Heap.bu];exact hw,by rw[Heap.aR];exact hp,by rw[Heap.aC hw hp,if_pos rfl],(e1 _ h.wJ).trans h.hm,by rw[Heap.aR];exact h.nX,h.wJ,?_,h.hl,hr,hf,h.he⟩,by rw[Heap.bu];exact hw,by rw[Heap.aR];exact YC _,λb hb ho=>⟨e1 b λe=>ho (YF e),ho⟩,λlo h1 h2 h3=>⟨Heap.dN h1 (h3 p (YF rfl)),h3⟩⟩;rcases h.Ed with hu|⟨ub,n,hu,g1,g2,g3,g4,g5,g6⟩;.exact YF hu
 .exact YD ⟨ub,n,hu,g1,g2,(e1 ub g5).trans g3,by rw[Heap.aR];exact g4,g5,g6⟩
theorem Li(T:jW t){p a x:Nat}{A:AD}{O:Nat->Prop}(h:cB H p A O)(ho:A.off=false)(hub:A.us.length<100000)(heb:A.es.length<1000000)(ha:a<A.len)(hroom:(find A.es a).isSome=true\/A.es.length<A.room):∃H' O',(∀(d:Nat)(k:K),aj (aS cp t fuel (d+3)) (.func 252 []) [.ptr p 0,.int 3 a,.str 32 x] H k=k (.int 3 (A.write a x).2) H')/\cB H' p (A.write a x).1 O'/\Step H O H' O':=by
 obtain⟨D,h,h1,h2,h3,h4,rfl⟩:=h;by_cases hf:A.aT=1
 .obtain⟨g1,g2⟩:=cB.put h (f:=0) (o:=true) h.hr (by unfold nn;omega);refine⟨_,DR.owns D p,λd k=>?_,⟨{D with aT:=0,off:=true},?_,?_⟩,g2⟩;.rw[Rc T h.wf h.hp h.hg h.hm h.nX h.wJ (h4.trans ho) (h3.trans hf) h.hl h.hr h.he (by omega) (by simp_all)];simp only[AD.write,if_pos hf]
  .simp only[AD.write,if_pos hf,AD.JF];omega
  .rw[show(A.write a x).1=A.JF by simp only[AD.write,if_pos hf]];exact⟨h1,h2,rfl,rfl,rfl⟩
 .obtain⟨H',D',g1,g2,g3,g4,g5,g6,g7,g8,g9,g10⟩:=V0 T.toTDisk (a:=a) h (h4.trans ho) (by omega) (by rw[dX];omega) heb (by omega) (by simp_all);refine⟨H',D'.owns p,λd k=>?_,⟨D',?_,?_⟩,g2.wf,g8,g9,g10⟩;.rw[g1];simp only[AD.write,if_neg hf]
  .simp only[AD.write,if_neg hf];have:fB (A.us++[(a,(find A.es a).getD (0,0),(find A.es a).isSome)])=fB A.us++[.int 3 a,sv ((find A.es a).getD (0,0)),.bool (find A.es a).isSome]:=by simp only[fB,QB,Wa,List.flatMap_nil,YX,TP]
   simp_all
  .simp only[AD.write,if_neg hf];simp_all
theorem OC(T:jW t){p:Nat}{A:AD}{O:Nat->Prop}(h:cB H p A O)(ho:A.off=false):∃H' O',(∀(d:Nat)(k:K),aj (aS cp t fuel (d+3)) (.func 254 []) [.ptr p 0] H k=k (.int 3 A.flush.2) H')/\cB H' p A.flush.1 O'/\Step H O H' O':=by
 obtain⟨D,h,h1,h2,h3,h4,rfl⟩:=h;have hw:=h.wf;have hp:=h.hp;by_cases hf:A.aT=1
 .obtain⟨g1,g2⟩:=cB.put h (f:=0) (o:=true) h.hr (by unfold nn;omega);refine⟨_,DR.owns D p,λd k=>?_,⟨{D with aT:=0,off:=true},?_,?_⟩,g2⟩;.rw[OD T h.wf h.hp h.hg (h4.trans ho) (h3.trans hf)];simp only[AD.flush,if_pos hf]
  .simp only[AD.flush,if_pos hf,AD.JF];omega
  .rw[show A.flush.1=A.JF by simp only[AD.flush,if_pos hf]];exact⟨h1,h2,rfl,rfl,rfl⟩
 .have e1:∀b,b≠p->(H.put p {D with aT:=D.aT-1,u:=.aE}.cQ).get b=H.get b:=λb hb=>by rw[Heap.aC hw hp,if_neg hb]
  refine⟨H.put p (DR.cQ {D with aT:=D.aT-1,u:=.aE}),DR.owns {D with aT:=D.aT-1,u:=.aE} p,λd k=>?_,⟨{D with aT:=D.aT-1,u:=.aE},?_,?_⟩,?_⟩;.rw[JX T.toTDisk2 hw hp h.hg (h4.trans ho) (by omega) h.hf];simp only[AD.flush,if_neg hf]
  .simp only[AD.flush,if_neg hf];exact⟨by rw[Heap.bu];omega,by rw[Heap.aR];omega,by rw[Heap.aC hw hp,if_pos rfl],(e1 _ h.wJ).trans h.hm,by rw[Heap.aR];exact h.nX,h.wJ,YF ⟨rfl,rfl⟩,h.hl,h.hr,by have:=h.hf;unfold nn at*;show D.aT-1<_;omega,h.he⟩
  .simp only[AD.flush,if_neg hf];simp_all
  .refine⟨by rw[Heap.bu];omega,by rw[Heap.aR];simp,λb hb hno=>⟨e1 b λe=>hno (YF e),?_⟩,λlo h1 h2 h3=>⟨Heap.dN h1 (h3 p (YF rfl)),?_⟩⟩
   .rintro(e|e|⟨o,m,c,s,e⟩);.exact hno (YF e)
    .exact hno (YD (YF e))
    simp_all
   .rintro b(e|e|⟨o,m,c,s,e⟩);.exact h3 b (YF e)
    .exact h3 b (YD (YF e))
    simp_all
theorem qm(T:jW t){p a}{A}{O}(h:cB H p A O)(ho:A.off=false)(ha:a<A.len):∃H',(∀(d)(k),aj (aS cp t fuel (d+3)) (.func 166 []) [.ptr p 0,.int 3 a] H k=k (.cG [sv (A.read a),.int 3 0]) H')/\ah H H':=by
 obtain⟨D,h,h1,h2,h3,h4,rfl⟩:=h;refine⟨_,λd k=>Pz T.toTDisk2 h.wf h.hp h.hg h.hm (h4.trans ho) h.hl (by omega),?_⟩;split;.exact ah.refl h.wf
 .exact ah.new h.wf
theorem Ks(T:jW t){p d}{k}{A}{O}(h:cB H p A O):aj (aS cp t fuel (d+2)) (.func 206 []) [.ptr p 0] H k=k (.bool (!A.off)) H:=by obtain⟨D,h,h1,h2,h3,h4,rfl⟩:=h;rw[Zf T.toTDisk2 h.wf h.hp h.hg,h4]
theorem tK(T:jW t){p d}{k}{A}{O}(h:cB H p A O):aj (aS cp t fuel (d+1)) (.func 88 []) [.ptr p 0] H k=k (.int 3 A.len) H:=by obtain⟨D,h,h1,h2,h3,h4,rfl⟩:=h;rw[Um T.toTDisk2 h.wf h.hp h.hg,h1]
theorem Y9(T:jW t){n r}(hw:H.wf)(h1:1<=n)(h2:n<=1024)(hr:nn r):∃H' p O,(∀(d)(k),aj (aS cp t fuel (d+1)) (.func 38 []) [.int 3 n,.int 3 r] H k=k (.ptr p 0) H')/\cB H' p ⟨n,r,0,false,[],[]⟩ O/\ah H H'/\∀b,O b->H.n<=b:=by
 refine⟨_,H.n+1,DR.owns ⟨H.n,.aE,n,r,0,false⟩ (H.n+1),λd k=>UC T hw h1 h2 hr,⟨⟨H.n,.aE,n,r,0,false⟩,⟨by simp only[Heap.aY,hw],by simp only[Heap.aK];omega,?_,?_,by simp only[Heap.aK];omega,by simp,YF ⟨rfl,rfl⟩,by show nn n;unfold nn;omega,hr,by show nn 0;unfold nn;omega,by simp⟩,rfl,rfl,rfl,rfl,rfl⟩,ah.trans (ah.new hw) (ah.new (by rw[Heap.aY];omega)),?_⟩;.rw[Heap.aD (by rw[Heap.aY];omega),if_pos (by rfl)]
 .rw[Heap.aD (by rw[Heap.aY];omega),if_neg (by rw[Heap.aK];simp),Heap.aD hw,if_pos rfl];rfl
 .rintro b(e|e|⟨o,m,c,s,e⟩);.omega
  .simp_all
  simp_all
end
theorem aB.jJ{t:Nat->Option du}(T:aB t)(h:aM t):jW t:={off:=T.k26,state:=T.k71,abY:=T.acL,there:=T.acH,write:=T.acJ,flush:=T.afy,read:=T.k83,len:=T.k44,on:=T.afj,fits:=T.afq,fits1:=T.afL,index:=T.afQ,contains:=T.afM,new:=T.k19}
abbrev Wr:=Nat×Tx
def aba(w:Wr):List V:=[.int 3 w.1,.str w.2.1 w.2.2]
def bX(ws:List Wr):List V:=ws.flatMap aba
theorem Bu(w)(ws):bX (w::ws)=.int 3 w.1::.str w.2.1 w.2.2::bX ws:=rfl
theorem dY(ws us):bX (ws++us)=bX ws++bX us:=by simp only[bX,QB]
theorem dB(ws):(bX ws).length=ws.length*2:=by induction ws with|nil=>rfl|cons w ws ih=>rw[Bu];simp only[YH,ih];omega
theorem qL(pre ws):(bX (pre++ws)).drop (pre.length*2)=bX ws:=by rw[dY,<-dB,List.drop_left]
def nN(H:Heap)(v:V)(ws:List Wr)(O:Nat->Prop):Prop:=(v=.aE/\ws=[])\/∃b c s,v=.slice b 0 ws.length c s/\H.get b=.cells (bX ws)/\b<H.n/\¬O b
theorem nN.bU{H H':Heap}{v:V}{ws:List Wr}{O O':Nat->Prop}(h:nN H v ws O)(s:Step H O H' O'):nN H' v ws O':=by
 rcases h with h|⟨b,c,z,h1,h2,h3,h4⟩;.exact YF h
 .exact YD ⟨b,c,z,h1,by rw[(s.same b h3 h4).1];exact h2,YE h3 s.n,(s.same b h3 h4).2⟩
theorem nN.fresh{H H':Heap}{v:V}{ws:List Wr}{O:Nat->Prop}(h:nN H v ws O)(s:ah H H'):nN H' v ws O:=h.bU s.step
def m9(l:List Nat):List (Nat×V):=l.map λa=>(a,.int 3 1)
theorem yN:∀(l)(a),Y5 (m9 l) a=if a∈l then some (.int 3 1)else none
 |[],a=>rfl|b::l,a=>by
  have ih:=yN l a;unfold Y5 m9 at*;simp only[YP,Qc,List.mem_cons];by_cases h:a=b;.simp_all
  .have hb:(b==a)=false:=by simpa usingλe=>h e.symm
   simp only[hb,h,false_or];omega
theorem Aa:∀(l)(a),a∉l->Ch (m9 l) a (.int 3 1)=m9 (l++[a])|[],a,_=>rfl|b::l,a,h=>by have hb:¬b=a:=λe=>h (by simp[e]);have ih:=Aa l a λh'=>h (YI _ h');simp only[m9,YP,YL,Ch,hb,if_false];simp only[m9]at ih;rw[ih]
def rz(len:Nat)(w:Wr):Prop:=145<=w.1/\w.1<len/\w.2.1=32
instance(len:Nat)(w:Wr):Decidable (rz len w):=by unfold rz;infer_instance
def gm(len:Nat):List Nat->List Wr->Bool|_,[]=>true|seen,w::ws=>if rz len w/\w.1∉seen then gm len (seen++[w.1]) ws else false
section
variable{cp:RC->au}{t:Nat->Option du}{fuel:Nat}{H:Heap}
theorem om(T:aB t)(hc:aM t){p d}{A}{O}{k}(h:cB H p A O):aj (aS cp t fuel (d+3)) (.func 162 []) [.ptr p 0] H k=k (.int 3 (if A.off=true then 6 else 0)) H:=by have ho:∀{k},aj (aS cp t fuel (d+2)) (.func 206 []) [.ptr p 0] H k=k (.bool (!A.off)) H:=λ{k}=>Ks (T.jJ hc) h;rw[ax T.k81 rfl rfl];cases hA:A.off<;>rw[hA]at ho<;>simp only[go_sem,c81,ho]
set_option maxRecDepth 4000in theorem BT(T:aB t)(hc:aM t){d p b c s M i n:Nat}{A:AD}{O:Nat->Prop}{G:Heap}{w:Wr}{pre ws:List Wr}{seen:List Nat}{kn:KE}{kx:Nat->KE}{e:Env}(hD:cB G p A O)(hl:nn A.len)(hw1:w.1<18446744073709551616)(hw2:w.2.1<1000000)(hb:G.get b=.cells (bX (pre++w::ws)))(hbn:b<G.n)(hM:G.get M=.map (cZ (m9 seen)))(hMn:M<G.n)(hbM:b≠M)(hpM:p≠M)(hn:n=(pre++w::ws).length)(hnb:n<1000000)(hi:i=pre.length)(h0:af s000 e=.ptr p 0)(h5:af s005 e=.map M)(h11:af s011 e=.slice b 0 n c s)(h12:af s012 e=.int 3 n)(h13:af s013 e=.int 3 i){x:R}(hT:rz A.len w/\w.1∉seen->∀e',af s000 e'=.ptr p 0->af s005 e'=.map M->af s011 e'=.slice b 0 n c s->af s012 e'=.int 3 n->af s013 e'=.int 3 (i+1)->kn e' (((G.new (.cells [.int 3 0,.str 0 0])).put G.n (.cells [.int 3 w.1,.str w.2.1 w.2.2])).put M (.map (cZ (m9 (seen++[w.1])))))=x)(hF:¬(rz A.len w/\w.1∉seen)->∀e',af s004 e'=.bool false->kx 0 e' ((G.new (.cells [.int 3 0,.str 0 0])).put G.n (.cells [.int 3 w.1,.str w.2.1 w.2.2]))=x):gH rv fuel (aS cp t fuel (d+1)) e G kn kx=x:=by
 have hw:=hD.wf;have hlt:i<n:=by rw[hi,hn];simp only[YB,YH];omega
 have e1:=n_ i;have e2:=n_ n;have e3:=l_ i;have e4:i*2<=(bX (pre++w::ws)).length:=by rw[dB,<-hn];omega
 have hd:(bX (pre++w::ws)).drop (i*2)=.int 3 w.1::.str w.2.1 w.2.2::bX ws:=by rw[hi,qL];rfl
 have e5:=by omega
 have e6:=by omega
 have e7:=by omega
 have e8:G.n<G.n+1:=by omega
 have e9:=m_ (i+1);have e10:=by omega
 have n145:=n_ 145;have n0:=n_ 0;have n1:=n_ 1;have e11:=l_ w.2.1;generalize hG2:(G.new (.cells [.int 3 0,.str 0 0])).put G.n (.cells [.int 3 w.1,.str w.2.1 w.2.2])=G2 at hT hF;have f2:ah G G2:=by rw[<-hG2];exact ah.put (ah.new hw) (YC _) (by simp only[Heap.aK];omega)
 have g2n:G2.get G.n=.cells [.int 3 w.1,.str w.2.1 w.2.2]:=by rw[<-hG2];simp only[Heap.aC,Heap.aD,Heap.aY,Heap.aK,hw,e8,if_true]
 have g2M:G2.get M=.map (cZ (m9 seen)):=by rw[f2.same M hMn];exact hM
 have g2w:=f2.wf;have g2Mn:=YE hMn f2.n;have hD2:cB G2.mark p A O:=by obtain⟨D,q,r⟩:=hD.fresh f2;exact⟨D,⟨q.wf,q.hp,q.hg,q.hm,q.nX,q.wJ,q.Ed,q.hl,q.hr,q.hf,q.he⟩,r⟩
 have hL:∀{k},aj (aS cp t fuel (d+1)) (.func 88 []) [.ptr p 0] G2.mark k=k (.int 3 A.len) G2.mark:=λ{k}=>tK (T.jJ hc) hD2;have hlk:=yN seen w.1;by_cases hg:rz A.len w
 .obtain⟨q1,q2,q3⟩:=hg;have e12:nn w.1:=by unfold nn at*;omega
  have e13:¬w.1<145:=by omega
  have e14:¬A.len<=w.1:=by omega
  have e15:=eq_true q3;by_cases hs:w.1∈seen;.rw[if_pos hs]at hlk;simp only[go_sem,ZE,rv,h0,h5,h11,h12,h13,hlt,e1,e2,e3,e4,hd,e8,hb,hw,hG2,g2n,g2M,hL,hlk,e11,e12,e13,e14,n145,n0,n1,hl,e15,Gw];exact hF (λh=>h.2 hs) _ rfl
  .rw[if_neg hs]at hlk;have hu:=Aa seen w.1 hs;simp only[go_sem,ZE,rv,h0,h5,h11,h12,h13,hlt,e1,e2,e3,e4,hd,e8,e9,hb,hw,hG2,g2n,g2M,g2w,hL,hlk,e11,e12,e13,e14,n145,n0,hl,e15,Gw,hu,g2Mn];refine hT ⟨⟨q1,q2,q3⟩,hs⟩ _ ?_ ?_ ?_ ?_ ?_<;>simp only[go_sem,h0,h5,h11,h12]
 .have hF':=hF (λh=>hg h.1);unfold rz at hg;by_cases q1:(ej (.lt 9223372036854775808 18446744073709551616) w.1 145=true);.simp only[go_sem,rv,h11,h12,h13,hlt,e1,e2,e3,e4,hd,e8,hb,hw,hG2,g2n,q1];exact hF' _ rfl
  .have q1':=q1;rw[Th]at q1;have e12:=n_ w.1;have e13:¬w.1<145:=by omega
   by_cases q2:A.len<=w.1;.simp only[go_sem,rv,h0,h11,h12,h13,hlt,e1,e2,e3,e4,hd,e8,hb,hw,hG2,g2n,hL,e12,e13,n145,hl,q2,Gw];exact hF' _ rfl
   .have q3:¬w.2.1=32:=λh=>hg ⟨by omega,by omega,h⟩;simp only[go_sem,rv,h0,h11,h12,h13,hlt,e1,e2,e3,e4,hd,e8,hb,hw,hG2,g2n,hL,e11,e12,e13,n145,hl,q2,q3,Gw];exact hF' _ rfl
theorem Uq(T:aB t)(hc:aM t){p b c s M n}{A}{O}{all}(hD:cB H p A O)(hl:nn A.len)(hall:∀w∈all,w.1<18446744073709551616/\w.2.1<1000000)(hb:H.get b=.cells (bX all))(hbn:b<H.n)(hM0:H.n<=M)(hn:n=all.length)(hnb:n<1000000):∀(ws pre)(seen)(G),all=pre++ws->ah H G->M<G.n->G.get M=.map (cZ (m9 seen))->∃G',ah H G'/\∀(d)(kx)(r)(e),ws.length<r->af s000 e=.ptr p 0->af s005 e=.map M->af s011 e=.slice b 0 n c s->af s012 e=.int 3 n->af s013 e=.int 3 pre.length->∀x:R,(gm A.len seen ws=true->∀e',kx 1 e' G'=x)->(gm A.len seen ws=false->∀e',af s004 e'=.bool false->kx 0 e' G'=x)->
  kq rv fuel (aS cp t fuel (d+1)) kx r e G=x:=by intro ws;induction ws with|nil=>
  intro pre seen G hal f hMn hM;refine⟨G,f,λd kx r e hr h0 h5 h11 h12 h13 x hT hF=>?_⟩;obtain⟨r,rfl⟩:=s_ r;have hi:pre.length=n:=by rw[hn,hal,YX]
  have e1:¬n<n:=by omega
  have e2:=n_ n;rw[ak];rw[hi]at h13;simp only[go_sem,rv,h12,h13,e1,e2];exact hT rfl _|cons w ws ih=>
  intro pre seen G hal f hMn hM;have hbM:b≠M:=by omega
  have hpM:p≠M:=by have:=hD.lt p hD.own;omega
  have hw:=f.wf;have hGM:=by omega
  have hn':n=(pre++w::ws).length:=by rw[hn,hal]
  have hw12:=hall w (by rw[hal];simp);have hb':G.get b=.cells (bX (pre++w::ws)):=by rw[f.same b hbn,hb,hal]
  have hbG:=YE hbn f.n;have f1:ah H ((G.new (.cells [.int 3 0,.str 0 0])).put G.n (.cells [.int 3 w.1,.str w.2.1 w.2.2])):=ah.put (f.trans (ah.new hw)) f.n (by simp only[Heap.aK];omega);have m1:M<((G.new (.cells [.int 3 0,.str 0 0])).put G.n (.cells [.int 3 w.1,.str w.2.1 w.2.2])).n:=by simp only[Heap.aR,Heap.aK];omega
  by_cases hg:rz A.len w/\w.1∉seen
  .obtain⟨G',f',hG'⟩:=ih (pre++[w]) (seen++[w.1]) (((G.new (.cells [.int 3 0,.str 0 0])).put G.n (.cells [.int 3 w.1,.str w.2.1 w.2.2])).put M (.map (cZ (m9 (seen++[w.1]))))) (by rw[hal];simp) (ah.put f1 hM0 m1) (by simp only[Heap.aR,Heap.aK];omega) (by rw[Heap.aC f1.wf m1,if_pos rfl]);refine⟨G',f',λd kx r e hr h0 h5 h11 h12 h13 x hT hF=>?_⟩;obtain⟨r,rfl⟩:=s_ r;have hm:gm A.len seen (w::ws)=gm A.len (seen++[w.1]) ws:=by simp only[gm,if_pos hg]
   rw[hm]at hT hF;refine BT T hc (hD.fresh f) hl hw12.1 hw12.2 hb' hbG hM hMn hbM hpM hn' hnb rfl h0 h5 h11 h12 h13 (λ_ e' g0 g5 g11 g12 g13=>?_) (λh=>absurd hg h);exact hG' d kx r e' (by simp only[YH]at hr;omega) g0 g5 g11 g12 (by rw[g13];simp) x hT hF
  .refine⟨_,f1,λd kx r e hr h0 h5 h11 h12 h13 x hT hF=>?_⟩;obtain⟨r,rfl⟩:=s_ r;exact BT T hc (hD.fresh f) hl hw12.1 hw12.2 hb' hbG hM hMn hbM hpM hn' hnb rfl h0 h5 h11 h12 h13 (λh=>absurd h hg) (λ_ e' h4=>hF (by simp only[gm,if_neg hg]) e' h4)
theorem yR(T:aB t)(hc:aM t){p}{v}{A}{O Q}{ws}(hD:cB H p A O)(hl:nn A.len)(hv:nN H v ws Q)(hall:∀w∈ws,w.1<18446744073709551616/\w.2.1<1000000)(hnb:ws.length<1000000)(hfu:ws.length<fuel):∃H',(∀(d)(k),aj (aS cp t fuel (d+2)) (.func 174 []) [.ptr p 0,v] H k=k (.bool (gm A.len [] ws)) H')/\ah H H':=by
 have hw:=hD.wf;rcases hv with⟨rfl,rfl⟩|⟨b,c,s,rfl,hb,hbn,_⟩
 .refine⟨H.new (.map []),λd k=>?_,ah.new hw⟩;obtain⟨f,rfl⟩:=s_ fuel;have n0:=n_ 0;have e1:=by omega
  rw[ax T.k87 rfl rfl];simp only[go_sem,ZE,c87,hw,ak,rv,n0,gm]
 .obtain⟨G',f',hG'⟩:=Uq (c:=c) (s:=s) T hc hD hl hall hb hbn (YC _) rfl hnb ws [] [] (H.new (.map [])) rfl (ah.new hw) (by rw[Heap.aK];omega) (by rw[Heap.aD hw,if_pos rfl];rfl);refine⟨G',λd k=>?_,f'⟩;have e1:=l_ ws.length;rw[ax T.k87 rfl rfl];simp only[go_sem,c87,hw,e1];refine hG' d _ fuel _ hfu ?_ ?_ ?_ ?_ ?_ _ (λhT e'=>?_) (λhF e' h4=>?_);all_goals first|rfl|rfl|simp_all
end
section
variable{cp:RC->au}{t:Nat->Option du}{fuel d:Nat}{H:Heap}{k:K}{args caps:List V}
theorem Jn{f g}(hf:f%2=1)(hg:g%2=0)(hF:f/2=g/2):aj (aS cp t fuel (d+1)) (.func f caps) args H k=aj (aS cp t fuel (d+1)) (.func g []) (caps++args) H k:=by show Nat.rec (kB args caps λargs=>JQ t fuel (aS cp t fuel d) (Wo f 2) args H k) (λ_ _=>kB caps args λargs=>JQ t fuel (aS cp t fuel d) (Wo f 2) args H k) (Yx f 2)=Nat.rec (motive:=λ_=>R) (kB (caps++args) [] λargs=>JQ t fuel (aS cp t fuel d) (Wo g 2) args H k) (λ_ _=>kB [] (caps++args) λargs=>JQ t fuel (aS cp t fuel d) (Wo g 2) args H k) (Yx g 2);have h1:Yx f 2=1:=hf;have h2:Yx g 2=0:=hg;have h3:Wo f 2=Wo g 2:=hF;rw[h1,h2,h3];show kB caps args _=kB (caps++args) [] _;rw[fK,fK,YX]
end
def AD.mI(A:AD):List Wr->AD×Nat|[]=>(A,0)|w::ws=>if(A.write w.1 w.2.2).2=0then(A.write w.1 w.2.2).1.mI ws else A.write w.1 w.2.2
def AD.iI(A:AD)(ws:List Wr):AD×Nat:=if(A.mI ws).2=0then(A.mI ws).1.flush else A.mI ws
def roomy(room:Nat):List (Nat×Tx)->List Wr->Prop|_,[]=>True|es,w::ws=>((find es w.1).isSome=true\/es.length<room)/\roomy room (dh es w.1 w.2) ws
theorem xk(D)(a)(v):(dh D a v).length<=D.length+1:=by rw[mb];split<;>omega
def xp(H:Heap)(O:Nat->Prop)(f:V)(p:Nat)(ws:List Wr):Prop:=∃B0 B1 B2 v,f=.func 256 [.ptr B0 0,.ptr B1 0,.ptr B2 0]/\H.get B0=.cells [v]/\H.get B1=.cells [.func 253 [.ptr p 0]]/\H.get B2=.cells [.func 255 [.ptr p 0]]/\(B0<H.n/\¬O B0)/\(B1<H.n/\¬O B1)/\(B2<H.n/\¬O B2)/\nN H v ws O
theorem xp.bU{H H':Heap}{O O':Nat->Prop}{f:V}{p:Nat}{ws:List Wr}(h:xp H O f p ws)(s:Step H O H' O'):xp H' O' f p ws:=by obtain⟨B0,B1,B2,v,h1,h2,h3,h4,⟨a0,b0⟩,⟨a1,b1⟩,⟨a2,b2⟩,h5⟩:=h;exact⟨B0,B1,B2,v,h1,by rw[(s.same _ a0 b0).1];exact h2,by rw[(s.same _ a1 b1).1];exact h3,by rw[(s.same _ a2 b2).1];exact h4,⟨YE a0 s.n,(s.same _ a0 b0).2⟩,⟨YE a1 s.n,(s.same _ a1 b1).2⟩,⟨YE a2 s.n,(s.same _ a2 b2).2⟩,h5.bU s⟩
section
variable{cp:RC->au}{t:Nat->Option du}{fuel:Nat}{H:Heap}
theorem pF(T:aB t){p:Nat}{v:V}{O:Nat->Prop}{ws:List Wr}(hw:H.wf)(hO:∀b,O b->b<H.n)(hv:nN H v ws O):∃H' f,(∀(d:Nat)(k:K),aj (aS cp t fuel (d+1)) (.func 178 []) [.ptr p 0,v] H k=k f H')/\ah H H'/\xp H' O f p ws:=by
 have hone:v=.aE\/∃b o l c s,v=.slice b o l c s:=by
  rcases hv with⟨rfl,_⟩|⟨b,c,s,rfl,_⟩;.exact YF rfl
  simp
 have e1:H.n+1<H.n+1+1+1:=by omega
 have e2:H.n+1+1<H.n+1+1+1:=by omega
 have e3:¬H.n=H.n+1:=by omega
 have e4:¬H.n=H.n+1+1:=by omega
 have e5:¬H.n+1=H.n+1+1:=by omega
 have e6:=by omega
 have e7:¬H.n+1=H.n:=by omega
 have f:ah H (((((H.new (.cells [v])).new (.cells [.rj])).new (.cells [.rj])).put (H.n+1) (.cells [.func 253 [.ptr p 0]])).put (H.n+1+1) (.cells [.func 255 [.ptr p 0]])):=ah.put (ah.put (ah.trans (ah.trans (ah.new hw) (ah.new (by simp only[Heap.aY,hw]))) (ah.new (by simp only[Heap.aY,hw]))) (by omega) (by simp only[Heap.aK];omega)) (by omega) (by simp only[Heap.aK,Heap.aR];omega);refine⟨_,.func 256 [.ptr H.n 0,.ptr (H.n+1) 0,.ptr (H.n+1+1) 0],λd k=>?_,f,H.n,H.n+1,H.n+1+1,v,rfl,?_,?_,?_,⟨?_,λh=>?_⟩,⟨?_,λh=>?_⟩,⟨?_,λh=>?_⟩,hv.fresh f⟩;.rw[ax T.k89 rfl rfl];rcases hone with rfl|⟨b,o,l,c,s,rfl⟩<;>simp only[go_sem,c89,hw,e1,e2,e5,e7]
 .simp only[Heap.aC,Heap.aD,Heap.bu,Heap.aY,Heap.aR,Heap.aK,hw,e1,e2,e3,e4,if_true,if_false]
 .simp only[Heap.aC,Heap.aD,Heap.bu,Heap.aY,Heap.aR,Heap.aK,hw,e1,e2,e5,if_true,if_false]
 .simp only[Heap.aC,Heap.aD,Heap.bu,Heap.aY,Heap.aR,Heap.aK,hw,e1,e2,if_true]
 .simp only[Heap.aR,Heap.aK];omega
 .have:=hO _ h;omega
 .simp only[Heap.aR,Heap.aK];omega
 .have:=hO _ h;omega
 .simp only[Heap.aR,Heap.aK];omega
 .have:=hO _ h;omega
set_option maxRecDepth 4000in theorem Pu(T:aB t)(hc:aM t){p b c s n B1 B2:Nat}{all:List Wr}(hn:n=all.length)(hnb:n<10000):∀(ws pre:List Wr)(G:Heap)(A:AD)(O:Nat->Prop),all=pre++ws->cB G p A O->A.off=false->A.us.length+ws.length<90000->A.es.length+ws.length<900000->(∀w∈ws,w.1<A.len/\w.2.1=32)->roomy A.room A.es ws->G.get b=.cells (bX all)->b<G.n->¬O b->G.get B1=.cells [.func 253 [.ptr p 0]]->B1<G.n->¬O B1->∃G' O',Step G O G' O'/\cB G' p (A.mI ws).1 O'/\∀(d:Nat)(kx:Nat->KE)(r:Nat)(e:Env),ws.length<r->af s001 e=.ptr B1 0->af s002 e=.ptr B2 0->af s007 e=.slice b 0 n c s->af s010 e=.int 3 n->af s011 e=.int 3 pre.length->∀x:R,((A.mI ws).2=0->∀e',af s002 e'=.ptr B2 0->kx 1 e' G'=x)->((A.mI ws).2≠0->∀e',af s003 e'=.int 3 (A.mI ws).2->kx 0 e' G'=x)->
  kq rO fuel (aS cp t fuel (d+3)) kx r e G=x:=by intro ws;induction ws with|nil=>
  intro pre G A O hal hD ho hus hes hgood hroom hb hbn hbO hB1 hB1n hB1O;refine⟨G,O,Step.refl hD.wf,hD,λd kx r e hr h1 h2 h7 h10 h11 x hT hF=>?_⟩;obtain⟨r,rfl⟩:∃q,r=q+1:=⟨r-1,by simp only[YS]at hr;omega⟩;have hi:pre.length=n:=by rw[hn,hal,YX]
  have e1:¬n<n:=by omega
  have e2:=n_ n;rw[ak];rw[hi]at h11;simp only[go_sem,rO,h10,h11,e1,e2];exact hT rfl _ h2|cons w ws ih=>
  intro pre G A O hal hD ho hus hes hgood hroom hb hbn hbO hB1 hB1n hB1O;have hw:=hD.wf;obtain⟨hw1,hw2⟩:=hgood w (YM ..);simp only[YH]at hus hes;have e8:G.n<G.n+1:=by omega
  obtain⟨wa,wl,wx⟩:=w;simp only at hw1 hw2;subst hw2;generalize hG1:(G.new (.cells [.int 3 0,.str 0 0])).put G.n (.cells [.int 3 wa,.str 32 wx])=G1;have f1:ah G G1:=by rw[<-hG1];exact ah.put (ah.new hw) (YC _) (by simp only[Heap.aK];omega)
  have hD1:=hD.fresh f1;have g1n:G1.get G.n=.cells [.int 3 wa,.str 32 wx]:=by rw[<-hG1];simp only[Heap.aC,Heap.aD,Heap.aY,Heap.aK,hw,e8,if_true]
  have hB1':=(f1.same B1 hB1n).trans hB1;obtain⟨G2,O2,hcall,hD2,s2⟩:=Li (T.jJ hc) hD1 ho (by omega) (by omega) hw1 hroom.1;have hcall':∀{d}{k},aj (aS cp t fuel (d+3)) (.func 253 [.ptr p 0]) [.int 3 wa,.str 32 wx] G1 k=k (.int 3 (A.write wa wx).2) G2:=λ{d k}=>by exact hcall d k
  have s12:=f1.step.trans s2;have hlt:pre.length<n:=by rw[hn,hal];simp only[YB,YH];omega
  have e1:=n_ pre.length;have e2:=n_ n;have e3:=l_ pre.length;have e4:pre.length*2<=(bX all).length:=by rw[dB,<-hn];omega
  have hd:(bX all).drop (pre.length*2)=.int 3 wa::.str 32 wx::bX ws:=by rw[hal,qL];rfl
  have e5:=by omega
  have e9:=m_ (pre.length+1);by_cases he:(A.write wa wx).2=0
  .have hA:A.mI ((wa,32,wx)::ws)=(A.write wa wx).1.mI ws:=by simp only[AD.mI,if_pos he]
   have hf1:¬A.aT=1:=λh=>by simp only[AD.write,if_pos h]at he;omega
   have hw':(A.write wa wx).1={A with aT:=A.aT-1,us:=A.us++[(wa,(find A.es wa).getD (0,0),(find A.es wa).isSome)],es:=dh A.es wa (32,wx)}:=by simp only[AD.write,if_neg hf1]
   have hle:=xk A.es wa (32,wx);obtain⟨G',O',s',hD',hG'⟩:=ih (pre++[(wa,32,wx)]) G2 _ O2 (by rw[hal];simp) hD2 (by rw[hw'];exact ho) (by rw[hw'];simp only[YB,YH,YS];omega) (by rw[hw'];simp only;omega) (by rw[hw'];exactλw hw=>hgood w (YI _ hw)) (by rw[hw'];exact hroom.2) (by rw[(s12.same b hbn hbO).1];exact hb) (YE hbn s12.n) (s12.same b hbn hbO).2 (by rw[(s12.same _ hB1n hB1O).1];exact hB1) (YE hB1n s12.n) (s12.same _ hB1n hB1O).2;rw[hA];refine⟨G',O',s12.trans s',hD',λd kx r e hr h1 h2 h7 h10 h11 x hT hF=>?_⟩;obtain⟨r,rfl⟩:=s_ r;rw[ak];simp only[go_sem,rO,h1,h7,h10,h11,hlt,e1,e2,e3,e4,hd,e8,e9,hb,hw,hG1,g1n,hB1',hcall',he];refine hG' d kx r _ (by simp only[YH]at hr;omega) ?_ ?_ ?_ ?_ ?_ x hT hF<;>simp only[go_sem,h1,h2,h7,h10]
  .have hA:A.mI ((wa,32,wx)::ws)=A.write wa wx:=by simp only[AD.mI,if_neg he]
   rw[hA];refine⟨G2,O2,s12,hD2,λd kx r e hr h1 h2 h7 h10 h11 x hT hF=>?_⟩;obtain⟨r,rfl⟩:=s_ r;rw[ak];simp only[go_sem,rO,h1,h7,h10,h11,hlt,e1,e2,e3,e4,hd,e8,hb,hw,hG1,g1n,hB1',hcall',he];exact hF he _ rfl
theorem aak{A:AD}:∀{ws},A.off=false->(A.mI ws).2=0->(A.mI ws).1.off=false:=by intro ws;induction ws generalizing A with|nil=>intro h _;exact h|cons w ws ih=>
  intro h h0;simp only[AD.mI]at h0⊢;split at h0
  .rename_i h1;rw[if_pos h1];refine ih ?_ h0;by_cases hf:A.aT=1;.simp[AD.write,if_pos hf]at h1
   .simp only[AD.write,if_neg hf];omega
  omega
theorem Ps(T:aB t)(hc:aM t){p}{A}{O}{f}{ws}(hD:cB H p A O)(hf:xp H O f p ws)(ho:A.off=false)(hus:A.us.length+ws.length<90000)(hes:A.es.length+ws.length<900000)(hgood:∀w∈ws,w.1<A.len/\w.2.1=32)(hroom:roomy A.room A.es ws)(hnb:ws.length<10000)(hfu:ws.length<fuel):∃H' O',(∀(d)(k),aj (aS cp t fuel (d+4)) f [] H k=k (.int 3 (A.iI ws).2) H')/\Step H O H' O'/\cB H' p (A.iI ws).1 O':=by
 obtain⟨B0,B1,B2,v,rfl,h0,h1,h2,⟨a0,b0⟩,⟨a1,b1⟩,⟨a2,b2⟩,hv⟩:=hf;have key:∃G' O',Step H O G' O'/\cB G' p (A.mI ws).1 O'/\∀(d)(x)(kx)(e),af s001 e=.ptr B1 0->af s002 e=.ptr B2 0->af s007 e=v->af s010 e=.int 3 ws.length->af s011 e=.int 3 0->((A.mI ws).2=0->∀e',af s002 e'=.ptr B2 0->kx 1 e' G'=x)->((A.mI ws).2≠0->∀e',af s003 e'=.int 3 (A.mI ws).2->kx 0 e' G'=x)->kq rO fuel (aS cp t fuel (d+3)) kx fuel e H=x:=by
  rcases hv with⟨rfl,rfl⟩|⟨b,c,s,rfl,hb,hbn,hbO⟩
  .refine⟨H,O,Step.refl hD.wf,hD,λd x kx e g1 g2 g7 g10 g11 hT hF=>?_⟩;obtain⟨f,rfl⟩:=s_ fuel;have n0:=n_ 0;have e1:=by omega
   rw[ak];simp only[go_sem,ZE,rO,g10,g11,n0];exact hT rfl _ (by simp only[go_sem,g2])
  .obtain⟨G',O',s',hD',hG'⟩:=Pu T hc rfl hnb ws [] H A O rfl hD ho hus hes hgood hroom hb hbn hbO h1 a1 b1;exact⟨G',O',s',hD',λd x kx e g1 g2 g7 g10 g11 hT hF=>hG' d kx fuel e hfu g1 g2 g7 g10 g11 x hT hF⟩
 obtain⟨G',O',s',hD',hG'⟩:=key;have e1:=l_ ws.length;have hB2':=(s'.same B2 a2 b2).1.trans h2;by_cases he:(A.mI ws).2=0
 .obtain⟨H2,O2,hcall,hD2,s2⟩:=OC (T.jJ hc) hD' (aak ho he);have hcall':∀{d}{k},aj (aS cp t fuel (d+3)) (.func 255 [.ptr p 0]) [] G' k=k (.int 3 (A.mI ws).1.flush.2) H2:=λ{d k}=>by exact hcall d k
  refine⟨H2,O2,λd k=>?_,s'.trans s2,by simp only[AD.iI,if_pos he];omega⟩;rw[ax T.acK rfl rfl];simp only[AD.iI,if_pos he];rcases hv with⟨rfl,rfl⟩|⟨b,c,s,rfl,_⟩;.simp only[go_sem,ZE,XD,h0];refine hG' d _ _ _ ?_ ?_ ?_ ?_ ?_ (λ_ e' g2=>?_) (λh=>absurd he h);all_goals first|(simp only[go_sem,YS];done)|simp only[go_sem,g2,hB2',hcall']
  .simp only[go_sem,ZE,XD,h0,e1];refine hG' d _ _ _ ?_ ?_ ?_ ?_ ?_ (λ_ e' g2=>?_) (λh=>absurd he h);all_goals first|(simp only[go_sem];done)|simp only[go_sem,g2,hB2',hcall']
 .refine⟨G',O',λd k=>?_,s',by simp only[AD.iI,if_neg he];omega⟩;rw[ax T.acK rfl rfl];simp only[AD.iI,if_neg he];rcases hv with⟨rfl,rfl⟩|⟨b,c,s,rfl,_⟩;.exact absurd rfl he
  .simp only[go_sem,ZE,XD,h0,e1];refine hG' d _ _ _ ?_ ?_ ?_ ?_ ?_ (λh=>absurd h he) (λ_ e' g3=>?_);all_goals first|(simp only[go_sem];done)|simp only[go_sem,g3]
end
def AD.runs(A:AD):List (List Wr)->AD×Nat|[]=>(A,0)|ws::l=>if(A.iI ws).2=0then(A.iI ws).1.runs l else A.iI ws
def laid(es:List (Nat×Tx))(ws:List Wr):List (Nat×Tx):=ws.foldl (λes w=>dh es w.1 w.2) es
theorem dZ(es)(ws us):laid es (ws++us)=laid (laid es ws) us:=by simp only[laid,List.foldl_append]
theorem oz{room}:∀{ws us}{es},roomy room es (ws++us)↔roomy room es ws/\roomy room (laid es ws) us|[],us,es=>by simp only[YJ,roomy,true_and];rfl|w::ws,us,es=>by simp only[YL,roomy,and_assoc];rw[oz];rfl
theorem vQ(ws)(es):(laid es ws).length<=es.length+ws.length:=by induction ws generalizing es with|nil=>exact YC _|cons w ws ih=>have h1:=ih (dh es w.1 w.2);have h2:=xk es w.1 w.2;simp only[YH];have h3:laid es (w::ws)=laid (dh es w.1 w.2) ws:=rfl;rw[h3];omega
structure Ez(A B:AD)(es:List (Nat×Tx)):Prop where
 len:B.len=A.len
 room:B.room=A.room
 off:B.off=A.off
 es:B.es=es
theorem IJ:∀{ws}{A},(∀w∈ws,w.2.1=32)->(A.mI ws).2=0->Ez A (A.mI ws).1 (laid A.es ws)/\(A.mI ws).1.us.length=A.us.length+ws.length
 |[],A,_,_=>⟨⟨rfl,rfl,rfl,rfl⟩,rfl⟩|w::ws,A,hl,h0=>by
  simp only[AD.mI]at h0⊢;split at h0
  .rename_i h1;rw[if_pos h1];have hf:¬A.aT=1:=λh=>by simp only[AD.write,if_pos h]at h1;omega
   have hw:(A.write w.1 w.2.2).1={A with aT:=A.aT-1,us:=A.us++[(w.1,(find A.es w.1).getD (0,0),(find A.es w.1).isSome)],es:=dh A.es w.1 (32,w.2.2)}:=by simp only[AD.write,if_neg hf]
   obtain⟨⟨g1,g2,g3,g4⟩,g5⟩:=IJ (λv hv=>hl v (YI _ hv)) h0;have h32:(32,w.2.2)=w.2:=by rw[<-hl w (YM ..)]
   rw[hw,h32]at g1 g2 g3 g4 g5⊢;refine⟨⟨g1,g2,g3,g4⟩,?_⟩;rw[g5];simp only[YB,YH,YS];omega
  omega
theorem B4{ws}{A}(hl:∀w∈ws,w.2.1=32)(h0:(A.iI ws).2=0):Ez A (A.iI ws).1 (laid A.es ws)/\(A.iI ws).1.us=[]:=by
 unfold AD.iI at h0⊢;by_cases h1:(A.mI ws).2=0
 .rw[if_pos h1]at h0⊢;obtain⟨⟨g1,g2,g3,g4⟩,g5⟩:=IJ hl h1;by_cases hf:(A.mI ws).1.aT=1;.simp only[AD.flush,if_pos hf]at h0;omega
  .simp only[AD.flush,if_neg hf];exact⟨⟨g1,g2,g3,g4⟩,trivial⟩
 simp_all
def TO(fs:List (V×List Wr)):List V:=fs.map (·.1)
structure Ey(A:AD)(l:List (List Wr)):Prop where
 off:A.off=false
 us:∀ws∈l,A.us.length+ws.length<90000
 es:A.es.length+l.flatten.length<900000acv:∀ws∈l,∀w∈ws,w.1<A.len/\w.2.1=32room:roomy A.room A.es l.flatten
theorem Ey.next{A:AD}{ws:List Wr}{l:List (List Wr)}(h:Ey A (ws::l))(h0:(A.iI ws).2=0):Ey (A.iI ws).1 l:=by
 obtain⟨⟨g1,g2,g3,g4⟩,g5⟩:=B4 (λw hw=>(h.acv ws (YM ..) w hw).2) h0;have hl:=vQ ws A.es;refine⟨g3.trans h.off,λus hus=>?_,?_,λus hus w hw=>?_,?_⟩;.rw[g5];have:=h.us us (YI _ hus);simp only[YS];omega
 .rw[g4];have:=h.es;simp only[WL,YB]at this;omega
 .rw[g1];exact h.acv us (YI _ hus) w hw
 .rw[g2,g4];have:=h.room;simp only[WL]at this;exact(oz.1 this).2
section
variable{cp:RC->au}{t:Nat->Option du}{fuel:Nat}{H:Heap}
set_option maxRecDepth 4000in theorem U8(T:aB t)(hc:aM t){p b c s n}{all}(hn:n=all.length)(hnb:n<10000):∀(fs pre)(G)(A)(O),all=pre++fs->cB G p A O->Ey A (fs.map (·.2))->(∀f∈fs,xp G O f.1 p f.2/\f.2.length<10000/\f.2.length<fuel)->G.get b=.cells (TO all)->b<G.n->¬O b->∃G' O',Step G O G' O'/\cB G' p (A.runs (fs.map (·.2))).1 O'/\∀(d)(kx)(r)(e),fs.length<r->af s006 e=.slice b 0 n c s->af s007 e=.int 3 n->af s010 e=.int 3 pre.length->∀x:R,((A.runs (fs.map (·.2))).2=0->∀e',kx 1 e' G'=x)->((A.runs (fs.map (·.2))).2≠0->∀e',af s002 e'=.int 3 (A.runs (fs.map (·.2))).2->kx 0 e' G'=x)->
  kq Fm fuel (aS cp t fuel (d+4)) kx r e G=x:=by intro fs;induction fs with|nil=>
  intro pre G A O hal hD hR hfs hb hbn hbO;refine⟨G,O,Step.refl hD.wf,hD,λd kx r e hr h6 h7 h10 x hT hF=>?_⟩;obtain⟨r,rfl⟩:=s_ r;have hi:pre.length=n:=by rw[hn,hal,YX]
  have e1:¬n<n:=by omega
  have e2:=n_ n;rw[ak];rw[hi]at h10;simp only[go_sem,Fm,h7,h10,e1,e2];exact hT rfl _|cons f fs ih=>
  intro pre G A O hal hD hR hfs hb hbn hbO;obtain⟨f,ws⟩:=f;obtain⟨hf1,hf2,hf3⟩:=hfs (f,ws) (YM ..);simp only at hf1 hf2 hf3;simp only[YP]at hR⊢;have hrm:=hR.room;have hes:=hR.es;simp only[WL,YB]at hes;obtain⟨G2,O2,hcall,s2,hD2⟩:=Ps (cp:=cp) T hc hD hf1 hR.off (hR.us ws (YM ..)) (by omega) (hR.acv ws (YM ..)) (oz.1 hrm).1 hf2 hf3;have hlt:pre.length<n:=by rw[hn,hal];simp only[YB,YH];omega
  have e1:=n_ pre.length;have e2:=n_ n;have e3:=l_ pre.length;have hget:(TO all)[pre.length]?=some f:=by rw[hal];simp[TO]
  have hnth:∀{id}{k},nth id (TO all) pre.length k=k f:=gY hget;have e9:=m_ (pre.length+1);by_cases he:(A.iI ws).2=0
  .have hA:A.runs (ws::fs.map (·.2))=(A.iI ws).1.runs (fs.map (·.2)):=by simp only[AD.runs,if_pos he]
   obtain⟨G',O',s',hD',hG'⟩:=ih (pre++[(f,ws)]) G2 _ O2 (by rw[hal];simp) hD2 (hR.next he) (λg hg=>⟨(hfs g (YI _ hg)).1.bU s2,(hfs g (YI _ hg)).2⟩) ((s2.same b hbn hbO).1.trans hb) (YE hbn s2.n) (s2.same b hbn hbO).2;rw[hA];refine⟨G',O',s2.trans s',hD',λd kx r e hr h6 h7 h10 x hT hF=>?_⟩;obtain⟨r,rfl⟩:=s_ r;rw[ak];simp only[go_sem,Fm,h6,h7,h10,hlt,e1,e2,e3,hb,hnth,hcall,he,e9];refine hG' d kx r _ (by simp only[YH]at hr;omega) ?_ ?_ ?_ x hT hF<;>simp only[go_sem,h6,h7]
  .have hA:A.runs (ws::fs.map (·.2))=A.iI ws:=by simp only[AD.runs,if_neg he]
   rw[hA];refine⟨G2,O2,s2,hD2,λd kx r e hr h6 h7 h10 x hT hF=>?_⟩;obtain⟨r,rfl⟩:=s_ r;rw[ak];simp only[go_sem,Fm,h6,h7,h10,hlt,e1,e2,e3,hb,hnth,hcall,he];exact hF he _ rfl
theorem zG(T:aB t)(hc:aM t){p b c s}{A}{O}{fs}(hD:cB H p A O)(hR:Ey A (fs.map (·.2)))(hfs:∀f∈fs,xp H O f.1 p f.2/\f.2.length<10000/\f.2.length<fuel)(hb:H.get b=.cells (TO fs))(hbn:b<H.n)(hbO:¬O b)(hnb:fs.length<10000)(hfu:fs.length<fuel):∃H' O',(∀(d)(k),aj (aS cp t fuel (d+5)) (.func 176 []) [.slice b 0 fs.length c s] H k=k (.int 3 (A.runs (fs.map (·.2))).2) H')/\Step H O H' O'/\cB H' p (A.runs (fs.map (·.2))).1 O':=by obtain⟨G',O',s',hD',hG'⟩:=U8 (c:=c) (s:=s) T hc rfl hnb fs [] H A O rfl hD hR hfs hb hbn hbO;refine⟨G',O',λd k=>?_,s',hD'⟩;have e1:=l_ fs.length;rw[ax T.k88 rfl rfl];simp only[go_sem,c88,e1];refine hG' d _ fuel _ hfu ?_ ?_ ?_ _ (λh e'=>?_) (λh e' h2=>?_);all_goals first|rfl|simp_all|rfl
end
theorem jh:∀(a b),enc (a++b)=enc a+enc b*256^a.length
 |[],b=>by simp[enc]|x::a,b=>by
  simp only[YL,enc,jh a b,YH,Qd];have h:256*(enc b*256^a.length)=enc b*(256^a.length*256):=by rw[Nat.mul_left_comm,Ww 256]
  omega
theorem Cf(a b):V.str (a.length+b.length) (enc a+enc b*256^a.length)=tv (a++b):=by simp only[tv,YB,jh]
def be:Nat->Nat->List UInt8->List UInt8|0,_,s=>s|m+1,n,s=>if n=0then s else be m (n/256) (UInt8.ofNat (n%256)::s)
def bJ(n:Nat):List UInt8:=UInt8.ofNat (be 8 n []).length::be 8 n []
theorem qD:∀(m n)(s),(be m n s).length<=m+s.length
 |0,n,s=>by simp[be]|m+1,n,s=>by
  simp only[be];split;.omega
  .have:=qD m (n/256) (UInt8.ofNat (n%256)::s);simp only[YH]at this;omega
theorem bP(n):(bJ n).length<=9:=by have:=qD 8 n [];simp only[bJ,YH,YS]at*;omega
theorem toNat_ofNat{n:Nat}(h:n<256):(UInt8.ofNat n).toNat=n:=by simp_all
theorem oO{a b}(ha:a<18446744073709551616)(hb:b<18446744073709551616):(ej (.gt 0 18446744073709551616) a b=true)=(b<a):=by rw[LZ,WN,WN,WH ha,WH hb]
theorem BS{a b}(ha:a<18446744073709551616)(hb:b<18446744073709551616):(ej (.lt 0 18446744073709551616) a b=true)=(a<b):=by rw[Th,WN,WN,WH ha,WH hb]
theorem UX{s}{v i}:KH (enc s*256^(i+1)) i 1 v=(v+256*enc s)*256^i:=by
 unfold KH;have h1:enc s*256^(i+1)%256^i=0:=by rw[Qd,Ww (256^i),<-YP0];simp
 have h2:(enc s*256^(i+1))>>>(8*(i+1))=enc s:=by rw[WE,QY,show(2^8:Nat)=256by rfl,YP2 _ (Nat.pow_pos (by omega))]
 rw[h1,h2,Nat.pow_one,Nat.zero_add,Ww (enc s)]
section
variable{cp:RC->au}{t:Nat->Option du}{fuel:Nat}{H:Heap}
theorem HF(T:aB t){B}:∀(m n)(s)(G),m+s.length=8->n<256^m->ah H G->H.n<=B->B<G.n->G.get B=.bytes 8 (enc s*256^m)->∃G',ah H G'/\B<G'.n/\G'.get B=.bytes 8 (enc (be m n s)*256^(8-(be m n s).length))/\∀(d)(kx)(r)(e)(v0),m<r->af s000 e=v0->af s001 e=.int 7 n->af s005 e=.ptr B 0->af s006 e=.int 3 m->∀x:R,(∀e',af s000 e'=v0->af s005 e'=.ptr B 0->af s006 e'=.int 3 (8-(be m n s).length)->kx 1 e' G'=x)->
  kq xG fuel (aS cp t fuel d) kx r e G=x:=by intro m;induction m with|zero=>
  intro n s G hm hn f hB hBn hb;have hn0:=by simp at hn;omega
  subst hn0;have hs:8-s.length=0:=by omega
  simp only[be];refine⟨G,f,hBn,by rw[hs];omega,λd kx r e v0 hr h0 h1 h5 h6 x hT=>?_⟩;obtain⟨r,rfl⟩:=s_ r;have e1:(ej (.gt 0 18446744073709551616) 0 0=true)=False:=by rw[oO (by omega) (by omega)];simp
  rw[ak];simp only[go_sem,xG,h1,e1];exact hT _ h0 h5 (by simp only[go_sem,h6,hs])|succ m ih=>
  intro n s G hm hn f hB hBn hb;have hn64:n<18446744073709551616:=by have:256^(m+1)<=256^8:=Nat.pow_le_pow_right (by omega) (by omega);omega
  have e1:(ej (.gt 0 18446744073709551616) n 0=true)=(0<n):=oO hn64 (by omega);by_cases h0:n=0
  .subst h0;simp only[be,if_true];have hs:8-s.length=m+1:=by omega
   refine⟨G,f,hBn,by rw[hs];omega,λd kx r e v0 hr h0 h1 h5 h6 x hT=>?_⟩;obtain⟨r,rfl⟩:=s_ r;have e2:=by omega
   rw[ak];simp only[go_sem,ZE,xG,h1,e1];exact hT _ h0 h5 (by simp only[go_sem,h6,hs])
  .have hd:n/256<256^m:=by omega
   have hw:=f.wf;have hx:KH (enc s*256^(m+1)) m 1 (n%256)=enc (UInt8.ofNat (n%256)::s)*256^m:=by rw[UX];simp only[enc,toNat_ofNat (show n%256<256by omega)]
   obtain⟨G',f',hB',hb',hG'⟩:=ih (n/256) (UInt8.ofNat (n%256)::s) (G.put B (.bytes 8 (enc (UInt8.ofNat (n%256)::s)*256^m))) (by simp only[YH];omega) hd (ah.put f hB hBn) hB (by rw[Heap.aR];omega) (by rw[Heap.aC hw hBn,if_pos rfl]);simp only[be,if_neg h0];refine⟨G',f',hB',hb',λd kx r e v0 hr h0' h1 h5 h6 x hT=>?_⟩;obtain⟨r,rfl⟩:=s_ r;have e2:0<n:=by omega
   have e3:(m+1+18446744073709551615)%18446744073709551616=m:=by omega
   have e4:m<8:=by omega
   have e5:=l_ m;have e6:m+1<=8:=by omega
   have e7:n>>>8=n/256:=by omega
   rw[ak];simp only[go_sem,xG,h1,h5,h6,e1,e2,e3,e4,e5,e6,e7,hb,hx,hw,hBn,hn64];refine hG' d kx r _ v0 (by omega) ?_ ?_ ?_ ?_ x hT<;>simp only[go_sem,h0',h5]
theorem zy(T:aB t){d}{k}{l x b o n c s len y}(hb:H.get b=.bytes len y)(hl:o+n<=len)(hs:l+n<9223372036854775808):aj (aS cp t fuel (d+1)) (.func 312 []) [.str l x,.slice b o n c s] H k=k (.str (l+n) (x+(y>>>(8*o))%256^n*256^l)) H:=by rw[ax T.afP rfl rfl];simp only[go_sem,aeE,hb,hl,hs]
theorem fj(T:aB t){a}{n}(hw:H.wf)(ha:a.length<4000000000000000000)(hn:n<18446744073709551616)(hfu:8<fuel):∃H',(∀(d)(k),aj (aS cp t fuel (d+2)) (.func 278 []) [tv a,.int 7 n] H k=k (tv (a++bJ n)) H')/\ah H H':=by
 obtain⟨G',f',hB',hb',hG'⟩:=HF T 8 n [] (H.new (.bytes 8 0)) rfl (by omega) (ah.new hw) (YC _) (by rw[Heap.aK];omega) (by rw[Heap.aD hw,if_pos rfl];simp[enc]);have hle:=qD 8 n [];simp only[YS,WN]at hle;have hpn:bJ n=UInt8.ofNat (be 8 n []).length::be 8 n []:=rfl;generalize be 8 n []=s at hb' hG' hle hpn;have hw':=f'.wf;have f2:ah H (G'.new (.bytes 1 s.length)):=f'.trans (ah.new hw');refine⟨_,λd k=>?_,f2⟩;have e1:(8+(18446744073709551616-(8-s.length)))%18446744073709551616=s.length:=by omega
 have e2:s.length%256=s.length:=by omega
 have p1:∀{k},aj (aS cp t fuel (d+1)) (.func 312 []) [.str a.length (enc a),.slice G'.n 0 1 2 0] (G'.new (.bytes 1 s.length)) k=k (.str (a.length+1) (enc a+s.length*256^a.length)) (G'.new (.bytes 1 s.length)):=λ{k}=>by rw[zy T (by rw[Heap.aD hw',if_pos rfl]) (by omega) (by omega)];rw[Nat.mul_zero,Nat.shiftRight_zero,Nat.pow_one,e2]
 have hB2:(G'.new (.bytes 1 s.length)).get H.n=.bytes 8 (enc s*256^(8-s.length)):=by rw[Heap.aD hw',if_neg (by omega)];omega
 have e3:8-(8-s.length)=s.length:=by omega
 have e4:(enc s*256^(8-s.length))>>>(8*(8-s.length))%256^s.length=enc s:=by rw[WE,QY,show(2^8:Nat)=256by rfl,YP2 _ (Nat.pow_pos (by omega)),WH (jj s)]
 have p2:∀{k}{c},aj (aS cp t fuel (d+1)) (.func 312 []) [.str (a.length+1) (enc a+s.length*256^a.length),.slice H.n (8-s.length) s.length c 0] (G'.new (.bytes 1 s.length)) k=k (tv (a++bJ n)) (G'.new (.bytes 1 s.length)):=λ{k c}=>by rw[zy T hB2 (by omega) (by omega),e4];congr 1;rw[hpn];simp only[tv,YB,YH,V.str.injEq,jh,enc,toNat_ofNat (show s.length<256by omega)];refine⟨by omega,?_⟩;rw[Qd,Nat.add_mul,Nat.add_assoc,Ww 256 (enc s),YP0,Ww 256]
 have p3:∀{k},aj (aS cp t fuel (d+1)) (.func 312 []) [.str (a.length+1) (enc a+s.length*256^a.length),.slice H.n 0 0 1 0] (G'.new (.bytes 1 s.length)) k=k (.str (a.length+1+0) (enc a+s.length*256^a.length+enc s*256^(8-s.length)>>>(8*0)%256^0*256^(a.length+1))) (G'.new (.bytes 1 s.length)):=λ{k}=>zy T hB2 (by omega) (by omega);have e5:8-s.length<=8:=by omega
 have e6:=l_ (8-s.length);rw[ax T.afJ rfl rfl];rw[show tv a=.str a.length (enc a)from rfl];simp only[go_sem,aeA,hw];refine hG' (d+1) _ fuel _ (.str a.length (enc a)) hfu ?_ ?_ ?_ ?_ _ (λe' g0 g5 g6=>?_);.rfl
 .rfl
 .rfl
 .rfl
 .by_cases hz:s.length=0
  .have hs0:=List.eq_nil_of_length_eq_zero hz;subst hs0;have hr:tv (a++bJ n)=.str (a.length+1) (enc a):=by rw[hpn];simp only[tv,YB,YH,YS,V.str.injEq,jh,enc];simp
   have hz0:∀q,0%256^q=0:=λq=>Nat.zero_mod _;simp only[YS,Nat.sub_zero,Nat.zero_mul,WN,enc,hz0]at p1 p3 g6;simp only[go_sem,ZE,g0,g5,g6,hw',YS,p1,p3,hr]
  .have e7:¬8=8-s.length:=by omega
   simp only[go_sem,g0,g5,g6,hw',e1,e2,e3,e5,e6,e7,p1,p2]
end
end Go.Ev
end
