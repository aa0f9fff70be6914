/- EvA: a part of the evaluator,of its logic,or of the laws' walk in it. -/
import Derived.Below
import Derived.Calls
import Derived.CallsIn
import Derived.OrdersIn
import Derived.RangeFuncRecord
import Derived.Orders
import Derived.Laws.Sem
import Derived.Laws.Entries
import Derived.KernelRfl
import Derived.Laws.Cells
import Derived.TacticsIn
import Derived.Lib.Strings
import Derived.Laws.Strings
import Derived.WideShapes
import Derived.Laws.StructEq
import Derived.ChangeKeysEq
open List renaming getElem?_eq_getElem→YA,length_append→YB,length_cons→YG,mem_cons_of_mem→YI,cons_append→YK,mem_cons_self→YM,map_cons→YO,mem_cons→YS,replicate→YZ,mem_of_getElem?→Yj,getElem?_append_right→Yl,getElem?_append_left→Yp,getElem?_map→Ys,length_take→Yv,getElem?_take→Yy,getElem?_drop→WG,length_drop→WK,range→WZ,length→Wy,getElem?_of_mem→QG,getElem?_cons_succ→QW,drop_drop→Qf,map_take→YB4,map_drop→YF4
open Nat renaming le_refl→YC,lt_of_lt_of_le→YE,beq→YN,zero_le→Ya,ble→Yb,lt_or_ge→Ye,add→Yf,mul→Ym,le_trans→Yq,shiftLeft→Yt,mod→Yx,blt→Yz,shiftRight→WC,shiftRight_eq_div_pow→WD,mod_eq_of_lt→WE,succ→WN,ble_eq_true_of_le→WU,mul_one→Wb,div→Wm,min_eq_left→Wn,mul_comm→Wq,lt_of_le_of_lt→Wt,sub→QN,and_two_pow_sub_one_eq_mod→QT,pow_mul→QU,pow_succ→Qb,le_of_lt→Qc,ne_of_lt→Qk,mod_lt→Qo,shiftLeft_eq→Qr,min_eq_right→Qs,le_of_ble_eq_true→Qy,mul_le_mul_left→YB1,land→YB3,pow→YE1,div_lt_of_lt_mul→YG0,pow_add→YG1,add_comm→YG4,mod_mul_right_div_self→YH1,div_div_eq_div_mul→YK3,div_le_self→YM1,mul_add→YM4,mul_right_comm→YP0,xor→YQ0,and_le_left→YR4
open Or renaming inr→YD,inl→YH
open Array renaming getElem?_eq_some_iff→YP,getElem?_toList→Yr,getElem?_setIfInBounds_ne→WV,getElem?_modify→QA
open Bool renaming false_eq_true→YT,false_and→QB,true_and→Qp
open Option renaming getD_some→YU,map_eq_some_iff→Yg
open Int renaming toNat_natCast→YA0,fdiv_eq_ediv_of_nonneg→YH2,emod_eq_of_lt→YI1,mul_emod→YK4
open Prod renaming rec→YJ2
set_option linter.unusedVariables false
set_option linter.unusedSimpArgs false
set_option linter.unusedSectionVars false
section
namespace Go.Ev
open Go.RowKit
abbrev R:=Nat
def no(c:Nat):R:=c+2
theorem aw{c:Nat}(h:no c=1):False:=by have h':c+2=1:=h;omega
inductive V where|int(k n:Nat)|bool(b:Bool)|str(len n:Nat)|ptr(b off:Nat)|pj|slice(b off len cap sz:Nat)|aD|map(b:Nat)|uU|func(f:Nat)(caps:List V)|sJ(b:Nat)|qU|iface(t:Nat)(v:V)|Fo|agg(l:List V)|cG(l:List V)
def lI:IntKind->Nat|.i8=>0|.i16=>1|.i32=>2|.i64=>3|.u8=>4|.u16=>5|.u32=>6|.u64=>7
def oQ:Nat->IntKind|0=>.i8|1=>.i16|2=>.i32|3=>.i64|4=>.u8|5=>.u16|6=>.u32|_=>.u64
theorem dE(k:IntKind):oQ (lI k)=k:=by cases k<;>rfl
theorem xk(k:IntKind):lI k<8:=by cases k<;>decide
inductive I8 where|i0|i1|i2|i3|i4|i5|i6|i7 deriving DecidableEq
inductive N8(α:Type)where|mk(a0 a1 a2 a3 a4 a5 a6 a7:α)
abbrev Env:=N8 (N8 (N8 V))
inductive Slot where|mk(a b c:I8)deriving DecidableEq
inductive Arg where|s(s:Slot)|c(v:V)
inductive BF where|add(m:Nat)|sub(m:Nat)|mul(m:Nat)|afz|bor|Z6|acv(m:Nat)|shl(m bits:Nat)|shr(half bits:Nat)|quo(half:Nat)|rem(half:Nat)
inductive CF where|eq|ne|lt(o m:Nat)|le(o m:Nat)|gt(o m:Nat)|ge(o m:Nat)
inductive ld where|bad|gJ(x:Arg)|pick(c x y:Arg)|nP(z:List V)|aaT(n:Nat)|box(x:Arg)|build(zero:List V)(parts:List (Nat×Nat×Arg))|jA(u8:Bool)(len:Nat)(zero:List V)(parts:List (Nat×Nat×Arg))|cQ(a:Arg)|cI(n:Nat)(a:Arg)|ek(a x:Arg)|jF(n:Nat)(a x:Arg)|Fm(x:Arg)|bin(kd ky:Nat)(f:BF)(x y:Arg)|cmp(kd:Nat)(f:CF)(x y:Arg)|Tj(x y:Arg)|Tn(neg:Bool)(x y:Arg)|eqv(kc:Nat)(neg:Bool)(x y:Arg)|uT(x:Arg)|wD(src dst mode c:Nat)(x:Arg)|Ko(x:Arg)|Kp(x:Arg)|mkI(t:Nat)(x:Arg)|mkF(f:Nat)(caps:List Arg)|mkMap|mkSlice(u8:Bool)(zero:List V)(l c:Arg)|slS(x:Arg)(lo hi:Option Arg)|slV(size:Nat)(x:Arg)(lo hi mx:Option Arg)|slA(n size:Nat)(x:Arg)(lo hi mx:Option Arg)|gI(off:Nat)(x:Arg)|MQ(off:Nat)(x:Arg)|MR(off n:Nat)(x:Arg)|ixA(len size:Nat)(x i:Arg)|yZ(size:Nat)(x i:Arg)|ixS(x i:Arg)|ixG(len size:Nat)(agg:Bool)(x i:Arg)|look(ks:Bool)(zero:V)(ok:Bool)(m x:Arg)|aaS(ks:Bool)(m x y:Arg)|agT(ks:Bool)(m x:Arg)|RT(x:Arg)(i:Nat)|call(f:Nat)(args:List Arg)|Rf(x:Arg)(args:List Arg)|app(u8:Bool)(size:Nat)(s x:Arg)|copy(size:Nat)(d s:Arg)|aeD(x:Arg)|ft(x:Arg)|BO(x:Arg)|cap(x:Arg)|mm(kd o m:Nat)(mx:Bool)(x y:Arg)|jb(cls:List Nat)(neg:Bool)(x y:Arg)|mm3(kd o m:Nat)(mx:Bool)(x y z:Arg)|tas(t:Nat)(x:Arg)
inductive CL where|mk(id:Nat)(dst:Option Slot)(guard:Option (Slot×Bool))(cls:Nat)(op:ld)
inductive uK where|mk(id:Nat)(dst:Option Slot)(guard:Option (Slot×Bool))(tag i bf:Nat)(ad:Arg)(op:ld)
inductive RC where|mk(nt fid:Nat)(c:Code)
inductive au where|bad|skip|qX(ops:List CL)|th(ops:List CL)|aay(ops:List uK)|abE(ops:List uK)|seq(a b:au)|cond(c:Arg)(a b:au)|block(id:Nat)(a:au)|loop(a:au)|exit(id:Nat)|ret|kK(g:Arg)(ps:List Slot)(assign body:RC)|Cb(g:Arg)(ps:List Slot)(assign body:RC)
inductive RV where|tmp(s:Slot)|DK(s:Slot)|oe(s:Slot)(n:Nat)
def d8:Nat->I8|0=>.i0|1=>.i1|2=>.i2|3=>.i3|4=>.i4|5=>.i5|6=>.i6|_=>.i7
def bh(t:Nat):Slot:=.mk (d8 (t/64)) (d8 (t/8%8)) (d8 (t%8))
def enc:List UInt8->Nat|[]=>0|x::l=>x.toNat+256*enc l
def mO:Value->Option V|.bool b=>some (.bool b)|.int k n=>if k.wrap n==n then some (.int (lI k) (n%(2^k.bits:Nat)).toNat)else none|.string s=>some (.str s.data.toList.length (enc s.data.toList))|.pointer none=>some .pj|.slice none 0 0=>some .aD|.map none=>some .uU|.nilFunc=>some .qU|.nilIface=>some .Fo|_=>none
def consts:List Value->Option (List V)|[]=>some []|v::l=>match mO v,consts l with|some u,some r=>some (u::r)|_,_=>none
def Bn:Value->Option V|.agg cs=>(consts cs.toList).map .agg|.tuple cs=>(consts cs.toList).map .cG|v=>mO v
def aM(nt:Nat):Operand->Option Arg|.tmp t=>if t<nt then some (.s (bh t))else none|.const v=>(Bn v).map .c|.func f=>some (.c (.func (2*f) []))|.global _=>none
def bV(nt:Nat):List Operand->Option (List Arg)|[]=>some []|x::l=>match aM nt x,bV nt l with|some a,some r=>some (a::r)|_,_=>none
section
variable(P:Program)(nt:Nat)
def kindOf(t:TypeId):Option IntKind:=match P.underlying t with|some (.int k)=>some k|_=>none
def EO(t:TypeId):Bool:=match P.underlying t with|some (.int .u8)=>true|_=>false
def lE(t:TypeId):Option Bool:=match P.underlying t with|some (.struct _)|some (.array _ _)=>some true|some _=>some false|none=>none
def qm(t:TypeId):Option Nat:=(P.info? t).map (·.size)
def qC(t:TypeId):Option (List V):=match P.info? t with
 |some i=>match i.zero with|some z=>consts z.cells.toList|none=>none
 |none=>none
def zeroV(t:TypeId):Option V:=match P.info? t with
 |some i=>match i.zero with|some z=>Bn z|none=>none
 |none=>none
def half(k:IntKind):Nat:=if k.signed then 2^(k.bits-1)else 2^k.bits
def dR(k:IntKind):Nat:=if k.signed then 2^(k.bits-1)else 0
def ZV(op:BinOp)(k:IntKind):Option BF:=match op with|.add=>some (.add (2^k.bits))|.sub=>some (.sub (2^k.bits))|.mul=>some (.mul (2^k.bits))|.and=>some .afz|.or=>some .bor|.xor=>some .Z6|.andNot=>some (.acv (2^k.bits))|.shl=>some (.shl (2^k.bits) k.bits)|.shr=>some (.shr (half k) k.bits)|.quo=>some (.quo (half k))|.rem=>some (.rem (half k))|_=>none
def aaf(op:BinOp)(k:IntKind):Option CF:=match op with|.eql=>some .eq|.neq=>some .ne|.lss=>some (.lt (dR k) (2^k.bits))|.leq=>some (.le (dR k) (2^k.bits))|.gtr=>some (.gt (dR k) (2^k.bits))|.geq=>some (.ge (dR k) (2^k.bits))|_=>none
def sc:BinOp->Bool|.shl|.shr=>true|_=>false
def aeP(k:IntKind):Bool:=!k.signed||k.bits==64
def isC:Arg->Bool|.c _=>true|.s _=>false
def nB(kc:Nat)(op:BinOp)(x y:Arg):ld:=match op with|.eql=>.eqv kc false x y|.neq=>.eqv kc true x y|_=>.bad
def uc(rc:TypeId->Option (List Nat)):List Field->Nat->Option (List Nat)|[],_=>some []|f::l,off=>if f.name== "_"then none else match rc f.type,qm P f.type,uc rc l (off+(qm P f.type).getD 0)with|some c,some s,some r=>if f.offset==off&&s==c.length then some (c++r)else none|_,_,_=>none
def uN:Nat->TypeId->Option (List Nat)|0,_=>none|d+1,t=>match P.underlying t with|some .bool=>some [0]|some (.int _)=>some [1]|some .string=>some [2]|some (.struct fs)=>if P.stoodInHeld t then none else uc P (uN d) fs.toList 0|_=>none
def jf(op:BinOp)(t:TypeId)(c:List Nat)(x y:Arg):ld:=if P.eqGuardType P.depth t then .bad else match op with|.eql=>.jb c false x y|.neq=>.jb c true x y|_=>.bad
def l5(op:BinOp)(t:TypeId)(x y:Arg):ld:=match uN P 4 t with|some c=>jf P op t c x y|none=>.bad
def l7(op:BinOp)(t:TypeId)(n:Nat)(el:TypeId)(x y:Arg):ld:=match uN P 1 el,qm P el with|some [q],some 1=>jf P op t (YZ n q) x y|_,_=>.bad
def pL(op:BinOp)(xt yt:TypeId)(x y:Arg):ld:=match P.underlying xt with
 |some (.int k)=>match aaf op k with|some f=>.cmp (lI k) f x y|none=>match ZV op k with|some f=>if sc op then(match kindOf P yt with|some ky=>if aeP ky then .bin (lI k) (lI ky) f x y else .bad|none=>.bad)else .bin (lI k) (lI k) f x y|none=>.bad
 |some .string=>match op with|.add=>.Tj x y|.eql=>.Tn false x y|.neq=>.Tn true x y|_=>.bad
 |some .bool=>nB 0 op x y|some (.pointer _)=>nB 1 op x y|some (.slice _)=>nB 2 op x y|some (.map _ _)=>nB 3 op x y|some (.func _ _ _)=>nB 4 op x y|some (.interface _)=>if isC x||isC y then nB 5 op x y else .bad|some (.struct _)=>l5 P op xt x y|some (.array n el)=>l7 P op xt n el x y|some _=>.bad|none=>.bad
def te(k k':IntKind)(x:Arg):ld:=if k.signed&&k.bits<k'.bits then .wD (lI k) (lI k') (2^(k.bits-1)) (2^k'.bits-2^k.bits) x else .wD (lI k) (lI k') 0 (2^k'.bits) x
def K0(fs:Array Field):Option (List (Nat×Nat)):=fs.toList.mapM λf=>(P.info? f.type).map λi=>(f.offset,i.size)
def kq(pl:List (Nat×Nat)):List (Nat×Arg)->Option (List (Nat×Nat×Arg))|[]=>some []|(i,a)::l=>match pl[i]?,kq pl l with|some p,some r=>some ((p.1,p.2,a)::r)|_,_=>none
def pN(s:Nat)(l:List (Nat×Arg)):List (Nat×Nat×Arg):=l.map λp=>(p.1*s,s,p.2)
def dV:List (Nat×Operand)->Option (List (Nat×Arg))|[]=>some []|(i,x)::l=>match aM nt x,dV l with|some a,some r=>some ((i,a)::r)|_,_=>none
def IN:Option Operand->Option (Option Arg)|none=>some none|some x=>(aM nt x).map some
def ic:Nat->List V->List V|0,_=>[]|n+1,l=>l++ic n l
def Nf(t:TypeId):Option Bool:=match P.underlying t with|some (.int _)=>some false|some .string=>some true|_=>none
def z8:List V->Bool|[]=>true|.int 4 0::l=>z8 l|_=>false
def aaO(t:TypeId):Bool:=match P.underlying t with|some .string|some (.slice _)|some (.map _ _)=>true|_=>false
def tQ(t:TypeId):Option TypeId:=match P.underlying t with|some (.slice e)=>some e|_=>none
def abG(t:TypeId)(s:Nat):Bool:=match qC P t with|some z=>z.length==s|none=>false
def dg(b:Builtin)(asL:List Operand)(ts:List TypeId):ld:=match b with|.len=>(match bV nt asL,ts with|some [x],t::_=>(match P.underlying t with|some .string=>.aeD x|some (.slice _)=>.ft x|some (.map _ _)=>.BO x|_=>.bad)|_,_=>.bad)|.cap=>(match bV nt asL,ts with|some [x],t::_=>(match tQ P t with|some _=>.cap x|none=>.bad)|_,_=>.bad)|.append=>(match bV nt asL,ts with|some [s,x],[st,xt]=>(match tQ P st with|some e=>(match qm P e,P.info? e with|some s',some i=>if 0<s'&&i.bytes<=65536&&abG P e s'&&aaO P xt then .app (EO P e&&s'==1) s' s x else .bad|_,_=>.bad)|none=>.bad)|_,_=>.bad)|.copy=>(match bV nt asL,ts with|some [d,s],dt::_=>(match tQ P dt with|some e=>(match qm P e with|some s'=>.copy s' d s|none=>.bad)|none=>.bad)|_,_=>.bad)|.delete=>(match bV nt asL,ts with|some [m,x],mt::_=>(match P.underlying mt with|some (.map kt _)=>(match Nf P kt with|some ks=>.agT ks m x|none=>.bad)|_=>.bad)|_,_=>.bad)|.max=>(match bV nt asL,ts with|some [x,y],t::_=>(match kindOf P t with|some k=>.mm (lI k) (dR k) (2^k.bits) true x y|none=>.bad)|some [x,y,z],t::_=>(match kindOf P t with|some k=>.mm3 (lI k) (dR k) (2^k.bits) true x y z|none=>.bad)|_,_=>.bad)|.min=>(match bV nt asL,ts with|some [x,y],t::_=>(match kindOf P t with|some k=>.mm (lI k) (dR k) (2^k.bits) false x y|none=>.bad)|some [x,y,z],t::_=>(match kindOf P t with|some k=>.mm3 (lI k) (dR k) (2^k.bits) false x y z|none=>.bad)|_,_=>.bad)|_=>.bad
def ai(o:Oper):ld:=match o.op with
 |.move x|.assign x=>match aM nt x with|some a=>.gJ a|none=>.bad
 |.pick c x y=>match aM nt c,aM nt x,aM nt y with|some c,some a,some b=>.pick c a b|_,_,_=>.bad
 |.alloc t=>match qC P t,P.underlying t with|some z,some (.array n _)=>if z8 z&&z.length==n then .aaT n else .nP z|some z,some _=>.nP z|_,_=>.bad
 |.box _ x=>match aM nt x with|some a=>.box a|none=>.bad
 |.build t parts=>match qC P t,dV nt parts.toList,P.underlying t with
  |some z,some ps,some (.struct fs)=>match K0 P fs with|some pl=>(match kq pl ps with|some q=>.build z q|none=>.bad)|none=>.bad
  |some z,some ps,some (.array _ e)=>match qm P e with|some s=>.build z (pN s ps)|none=>.bad
  |_,_,_=>.bad
 |.buildSlice t len parts=>match dV nt parts.toList,P.underlying t with
  |some ps,some (.slice e)=>match qm P e,qC P e with|some s,some z=>if len*s<=1024&&z.length==s then .jA (EO P e&&0<len) len (ic len z) (pN s ps)else .bad|_,_=>.bad
  |_,_=>.bad
 |.load t a=>match aM nt a,lE P t,qm P t with|some a,some true,some n=>.cI n a|some a,some false,_=>.cQ a|_,_,_=>.bad
 |.store t a x=>match aM nt a,aM nt x,lE P t,qm P t with|some a,some x,some true,some n=>.jF n a x|some a,some x,some false,some 1=>.ek a x|_,_,_,_=>.bad
 |.nilCheck x=>match aM nt x with|some a=>.Fm a|none=>.bad
 |.binOp op xt x y yt=>match aM nt x,aM nt y with|some x,some y=>pL P op xt yt x y|_,_=>.bad
 |.unOp op xt x=>match aM nt x,op with
  |some x,.not=>.uT x|some x,.neg=>match kindOf P xt with|some k=>.bin (lI k) (lI k) (.sub (2^k.bits)) (.c (.int (lI k) 0)) x|none=>.bad
  |some x,.xor=>match kindOf P xt with|some k=>.bin (lI k) (lI k) .Z6 (.c (.int (lI k) (2^k.bits-1))) x|none=>.bad
  |_,_=>.bad
 |.convert s d x=>match aM nt x,P.underlying s,P.underlying d with|some x,some (.int k),some (.int k')=>te k k' x|some x,some (.slice e),some .string=>if EO P e then .Ko x else .bad|some x,some .string,some (.slice e)=>if EO P e then .Kp x else .bad|some x,some .string,some .string=>.Tj x (.c (.str 0 0))|_,_,_=>.bad
 |.makeInterface t x=>match aM nt x,P.underlying t with|some _,some (.interface _)=>.bad|some x,some _=>.mkI t x|_,_=>.bad
 |.typeAssert x _ t ok=>match ok,aM nt x,P.underlying t with|true,some _,some (.interface _)=>.bad|true,some x,some _=>.tas t x|_,_,_=>.bad
 |.makeFunc (.func f) first caps=>match first.toList,bV nt caps.toList with
  |[],some l=>.mkF (2*f) l|q::qs,some []=>match bV nt (q::qs)with|some l=>.mkF (2*f+1) l|none=>.bad
  |_,_=>.bad
 |.makeMap _ none=>.mkMap|.makeSlice t l c=>match aM nt l,aM nt c,P.underlying t with
  |some l,some c,some (.slice e)=>match qC P e,qm P e,P.info? e with|some z,some s,some i=>if z.length==s&&0<s&&i.bytes<=65536then .mkSlice (z8 z&&s==1) z l c else .bad|_,_,_=>.bad
  |_,_,_=>.bad
 |.slice t x lo hi mx=>match aM nt x,IN nt lo,IN nt hi,IN nt mx with
  |some x,some lo,some hi,some mx=>match P.underlying t with
   |some .string=>match mx with|none=>.slS x lo hi|some _=>.bad
   |some (.slice e)=>match qm P e with|some s=>(match hi,mx with|none,some _=>.bad|_,_=>.slV s x lo hi mx)|none=>.bad
   |some (.array n e)=>match qm P e with|some s=>(match hi,mx with|none,some _=>.bad|_,_=>.slA n s x lo hi mx)|none=>.bad
   |_=>.bad
  |_,_,_,_=>.bad
 |.fieldAddr t x f=>match aM nt x,P.underlying t with
  |some x,some (.struct fs)=>match fs[f]?with
   |some fd=>match qm P fd.type with|some (_+1)=>.gI fd.offset x|_=>.bad
   |none=>.bad
  |_,_=>.bad
 |.field t x f=>match aM nt x,P.underlying t with
  |some x,some (.struct fs)=>match fs[f]?with
   |some fd=>match lE P fd.type,qm P fd.type with|some true,some n=>.MR fd.offset n x|some false,some _=>.MQ fd.offset x|_,_=>.bad
   |none=>.bad
  |_,_=>.bad
 |.indexAddr t x i=>match aM nt x,aM nt i,P.underlying t with
  |some x,some i,some (.array len e)=>match qm P e with|some s=>.ixA len s x i|none=>.bad
  |some x,some i,some (.slice e)=>match qm P e with|some s=>.yZ s x i|none=>.bad
  |_,_,_=>.bad
 |.index t x i=>match aM nt x,aM nt i,P.underlying t with
  |some x,some i,some .string=>.ixS x i|some x,some i,some (.array len e)=>match qm P e,lE P e with|some s,some b=>.ixG len s b x i|_,_=>.bad
  |_,_,_=>.bad
 |.lookup t m x ok=>match aM nt m,aM nt x,P.underlying t with
  |some m,some x,some (.map kt e)=>match zeroV P e,Nf P kt with|some z,some ks=>.look ks z ok m x|_,_=>.bad
  |_,_,_=>.bad
 |.mapUpdate t m x y|.insert t m x y=>match aM nt m,aM nt x,aM nt y,P.underlying t with
  |some m,some x,some y,some (.map kt _)=>match Nf P kt with|some ks=>.aaS ks m x y|none=>.bad
  |_,_,_,_=>.bad
 |.extract x i=>match aM nt x with|some x=>.RT x i|none=>.bad
 |.call {callee:=.value (.func f),args,argTypes:=_}=>match bV nt args.toList,P.funcs[f]?with|some l,some _=>.call (2*f) l|_,_=>.bad
 |.call {callee:=.value (.tmp t),args,argTypes:=_}=>match aM nt (.tmp t),bV nt args.toList with|some x,some l=>.Rf x l|_,_=>.bad
 |.call {callee:=.builtin b,args,argTypes:=ts}=>dg P nt b args.toList ts.toList|_=>.bad
def bP:ld->Bool|.gJ _|.pick _ _ _|.build _ _|.Fm _|.bin ..|.cmp ..|.Tj ..|.Tn ..|.eqv ..|.uT _|.wD ..|.mkI ..|.tas ..|.mkF ..|.slS ..|.slV ..|.slA ..|.gI ..|.MQ ..|.MR ..|.ixA ..|.yZ ..|.ixS ..|.ixG ..|.RT ..|.jb ..=>true|_=>false
def guardOf(ops:Array Oper)(g:Option (Nat×Bool)):Option (Option (Slot×Bool)):=match g with|none=>some none|some (j,b)=>match ops[j]?with
  |some o=>match o.dst with|some d=>if d<nt then some (some (bh d,b))else none|none=>none
  |none=>none
def rT(d:Option Tmp):Option (Option Slot):=match d with|none=>some none|some d=>if d<nt then some (some (bh d))else none
def ia(l:List Bool)(bf:Array Nat)(i:Nat):Bool:=l.zipIdx.all λp=>p.1||p.2==i||(bf.getD i 0).testBit p.2||(bf.getD p.2 0).testBit i
def kT:ld->Bool|.nP _|.aaT _=>true|_=>false
def dx(l al:List Bool)(bf:Array Nat)(i:Nat):Bool:=!(al.getD i false)&&l.zipIdx.all λp=>p.1||p.2==i||(bf.getD i 0).testBit p.2||(bf.getD p.2 0).testBit i||(al.getD p.2 false&&Yz i p.2)
def du(base:Nat)(ops:Array Oper)(pl al:List Bool)(bf:Array Nat):List Oper->Nat->Option (List CL)|[],_=>some []|o::l,i=>match rT nt o.dst,guardOf nt ops o.guard,du base ops pl al bf l (i+1)with|some d,some g,some r=>let c:=ai P nt o;some (.mk 0 d g (if bP c||dx pl al bf i then 0 else 1) c::r)|_,_,_=>none
def vF(ops:Array Oper)(o:Oper):List Tmp:=o.dst.toList++o.looksAt ops
def jI(ops:Array Oper)(bf:Array Nat):Bool:=ops.toList.zipIdx.all λp=>ops.toList.zipIdx.all λq=>p.2==q.2||(match p.1.dst with|none=>true|some d=>!(vF ops q.1).contains d||(if p.2<q.2then(bf.getD q.2 0).testBit p.2else(bf.getD p.2 0).testBit q.2))
def lk(ops:Array Oper):Bool:=ops.toList.zipIdx.all λp=>p.1.after.toList.all λe=>!Region.binds .any e||e.on<p.2
def EM:ld->Bool|.cQ _|.cI _ _=>true|_=>false
def BJ:ld->Bool|.ek _ _|.jF _ _ _|.app _ _ _ _=>true|_=>false
def qG:ld->Arg|.cQ a|.cI _ a=>a|.ek a _|.jF _ a _=>a|.app _ _ s _=>s|.box _=>.c .aD|_=>.c .pj
def qv:ld->Bool|.box _=>true|_=>false
def jE(bf:Array Nat)(i j:Nat):Bool:=(bf.getD i 0).testBit j||(bf.getD j 0).testBit i
def kB(cs:List ld)(bf:Array Nat)(i:Nat):Bool:=qv (cs.getD i .bad)&&cs.zipIdx.any λq=>BJ q.1&&Yz i q.2&&!(jE bf i q.2)
def adL(cs:List ld)(bf:Array Nat)(i:Nat):Bool:=BJ (cs.getD i .bad)&&cs.zipIdx.all λq=>bP q.1||EM q.1||q.2==i||jE bf i q.2||kB cs bf q.2
def tF(l la:List Bool)(bf:Array Nat)(i:Nat):Bool:=l.zipIdx.all λp=>p.1||p.2==i||(bf.getD i 0).testBit p.2||(bf.getD p.2 0).testBit i||(la.getD p.2 false&&Yz p.2 i)
def Sk(cs:List ld)(bf:Array Nat):List Bool:=cs.zipIdx.map λq=>kB cs bf q.2
def qR(cs:List ld)(bf:Array Nat)(i:Nat):Bool:=EM (cs.getD i .bad)&&cs.zipIdx.any λq=>adL cs bf q.2&&!(jE bf i q.2)
def aeI(cs:List ld)(bf:Array Nat):List Bool:=cs.zipIdx.map λq=>bP q.1||qR cs bf q.2
def nO(cs:List ld)(bf:Array Nat)(i:Nat):Bool:=tF (aeI cs bf) (Sk cs bf) bf i&&(BJ (cs.getD i .bad)||ia (cs.map bP) bf i)
def Zf(cs:List ld)(bf:Array Nat):Bool:=cs.zipIdx.any λq=>BJ q.1&&!(ia (cs.map bP) bf q.2)
def lx(cs:List ld)(bf:Array Nat)(c:ld)(i:Nat):Nat:=if qR cs bf i then 2 else if bP c then 0 else if nO cs bf i then(if ia (cs.map bP) bf i then 0 else 3)else if kB cs bf i then 4 else 1
def iD(base:Nat)(ops:Array Oper)(cs:List ld)(bf:Array Nat):List Oper->Nat->Option (List uK)|[],_=>some []|o::l,i=>match rT nt o.dst,guardOf nt ops o.guard,iD base ops cs bf l (i+1)with|some d,some g,some r=>some (.mk 0 d g (lx cs bf (ai P nt o) i) i (bf.getD i 0) (qG (ai P nt o)) (ai P nt o)::r)|_,_,_=>none
def xrs:List Nat:=[10*100000+500]
def CK(c:ld):Nat:=if bP c then 0 else if EM c then 5 else 6
def iE(base:Nat)(ops:Array Oper):List Oper->Nat->Option (List uK)|[],_=>some []|o::l,i=>match rT nt o.dst,guardOf nt ops o.guard,iE base ops l (i+1)with|some d,some g,some r=>some (.mk 0 d g (CK (ai P nt o)) i 0 (qG (ai P nt o)) (ai P nt o)::r)|_,_,_=>none
def uZ(c:ld):Bool:=bP c||EM c
def xOK(cs:List ld)(bf:Array Nat):Bool:=cs.zipIdx.all λq=>uZ q.1||ia (cs.map uZ) bf q.2
def dq(o:Oper):Option (TypeId×Nat×Nat):=match o.op,o.dst,o.guard with|.load t (.tmp s),some d,none=>some (t,s,d)|_,_,_=>none
def lH(o:Oper):Bool:=(dq o).isSome
def Hp(ops:Array Oper)(o:Oper):Bool:=match o.op,o.dst,o.guard with|.store t (.tmp s) (.tmp d),none,none=>o.after.toList.any λe=>Region.binds .any e&&(match ops[e.on]?with|some o'=>dq o'==some (t,s,d)|none=>false)|_,_,_=>false
def kC(ops:Array Oper):List Nat:=ops.toList.filterMap λo=>(dq o).map (·.2.2)
def SK(t:TypeId):Bool:=match lE P t with|some true=>(qm P t).isSome|some false=>qm P t==some 1|none=>false
def A8(ops:Array Oper):Bool:=lk ops&&(ops.toList.all λo=>lH o||Hp ops o)&&decide (kC ops).Nodup&&ops.toList.all λo=>match dq o with|some (t,s,_)=>!(kC ops).contains s&&SK P t|none=>true
def UM(base:Nat)(ops:Array Oper)(draw:Bool):au:=if draw then if A8 P ops then(match du P nt base ops [] [] #[] (ops.toList.filter lH) 0with|some l=>.qX l|none=>.bad)else let bf:=Region.before ops;if jI ops bf&&lk ops then if xrs.contains base&&xOK (ops.toList.map (ai P nt)) bf then(match iE P nt base ops ops.toList 0with|some l=>.abE l|none=>.bad)else if Zf (ops.toList.map (ai P nt)) bf then(match iD P nt base ops (ops.toList.map (ai P nt)) bf ops.toList 0with|some l=>.aay l|none=>.bad)else match du P nt base ops (ops.toList.map λo=>bP (ai P nt o)) (ops.toList.map λo=>kT (ai P nt o)) bf ops.toList 0with|some l=>.th l|none=>.bad else .bad else match du P nt base ops [] [] #[] ops.toList 0with|some l=>.qX l|none=>.bad
def gW:List Tmp->Option (List Slot)|[]=>some []|t::l=>match gW l with|some r=>if t<nt then some (bh t::r)else none|none=>none
def iu(fid:Nat)(inl:Bool):Code->au
 |.skip=>.skip|.region id ops draw=>UM P nt (fid*100000+id*100) ops draw|.seq a b=>.seq (iu fid inl a) (iu fid inl b)|.cond c a b=>match aM nt c with|some x=>.cond x (iu fid inl a) (iu fid inl b)|none=>.bad
 |.block id a=>.block id (iu fid inl a)|.loop a=>.loop (iu fid inl a)|.exit id=>.exit id|.ret=>.ret|.rangeFunc g ps asL bo=>if inl then(match aM nt g,gW nt ps.toList with|some x,some l=>.Cb x l (.mk nt fid asL) (.mk nt fid bo)|_,_=>.bad)else match aM nt g,gW nt ps.toList with|some x,some l=>.kK x l (.mk nt fid asL) (.mk nt fid bo)|_,_=>.bad
 |_=>.bad
def aO:RC->au|.mk nt fid c=>iu P nt fid true c
def lj(l:List ResultVar):Option (List RV):=match l with
 |[]=>some []|.tmp t::l=>match lj l with|some r=>if t<nt then some (.tmp (bh t)::r)else none|none=>none
 |.cell a t::l=>match lj l,lE P t,qm P t with|some r,some false,_=>if a<nt then some (.DK (bh a)::r)else none|some r,some true,some n=>if a<nt then some (.oe (bh a) n::r)else none|_,_,_=>none
end
end Go.Ev
end
section
namespace Go.Ev
open Go.RowKit
def aC:Nat->Nat->List UInt8|0,_=>[]|l+1,n=>UInt8.ofNat (n%256)::aC l (n/256)
def fj(k:IntKind):Nat:=2^k.bits
def toI(k:IntKind)(n:Nat):Int:=k.wrap (n:Int)
structure M where
 b:Nat->Nat->Prop
 z:Nat->Nat->Prop
def M.le(m m':M):Prop:=(∀b c,m.b b c->m'.b b c)/\∀c z,m.z c z->m'.z c z
mutual def VR(mu:M):V->Value->Prop|.int k n,v=>v=.int (oQ k) (toI (oQ k) n)/\n<fj (oQ k)/\k<8|.bool b,v=>v=.bool b|.str l n,v=>v=.string ⟨(aC l n).toArray⟩/\n<256^l|.ptr b o,v=>∃c,v=.pointer (some ⟨c,o,none⟩)/\mu.b b c|.pj,v=>v=.pointer none|.slice b o l cp sz,v=>∃c cap o' sp,v=.slice (some ⟨c,o',sp⟩) l cap/\mu.b b c/\l<=cap/\((∀q,cp=q+1->cap=q)/\(cp=0->cap=0\/(mu.z c (o'+cap*sz)/\cap<9223372036854775808)))/\(o'=o/\sp=none\/cap=0)|.aD,v=>v=.slice none 0 0|.map b,v=>∃c,v=.map (some c)/\mu.b b c|.uU,v=>v=.map none|.func f l,v=>∃cs,v=.func (.func (f/2)) (if f%2=0then#[]else cs) (if f%2=0then cs else#[])/\bZ mu l cs.toList|.sJ b,v=>∃c,v=.func (.yield c) #[] #[]/\mu.b b c|.qU,v=>v=.nilFunc|.iface t x,v=>∃y,v=.iface t y/\VR mu x y|.Fo,v=>v=.nilIface|.agg l,v=>∃cs,v=.agg cs/\bZ mu l cs.toList|.cG l,v=>∃cs,v=.tuple cs/\bZ mu l cs.toList def bZ(mu:M):List V->List Value->Prop|[],cs=>cs=[]|v::l,cs=>∃c r,cs=c::r/\VR mu v c/\bZ mu l r end
mutual theorem VR.mono{mu mu':M}(h:mu.le mu'):∀(v:V)(c:Value),VR mu v c->VR mu' v c|.int ..,_,hv=>by simpa only[VR]using hv|.bool _,_,hv=>by simpa only[VR]using hv|.str ..,_,hv=>by simpa only[VR]using hv|.ptr ..,_,hv=>by simp only[VR]at hv⊢;obtain⟨c,h1,h2⟩:=hv;exact⟨c,h1,h.1 _ _ h2⟩|.pj,_,hv=>by simpa only[VR]using hv|.slice ..,_,hv=>by simp only[VR]at hv⊢;obtain⟨c,cap,o',sp,h1,h2,h3,⟨h4,h5⟩,h6⟩:=hv;exact⟨c,cap,o',sp,h1,h.1 _ _ h2,h3,⟨h4,λe=>(h5 e).imp id λq=>⟨h.2 _ _ q.1,q.2⟩⟩,h6⟩|.aD,_,hv=>by simpa only[VR]using hv|.map _,_,hv=>by simp only[VR]at hv⊢;obtain⟨c,h1,h2⟩:=hv;exact⟨c,h1,h.1 _ _ h2⟩|.uU,_,hv=>by simpa only[VR]using hv|.func _ l,_,hv=>by simp only[VR]at hv⊢;obtain⟨c,h1,h2⟩:=hv;exact⟨c,h1,bZ.mono h l _ h2⟩|.sJ _,_,hv=>by simp only[VR]at hv⊢;obtain⟨c,h1,h2⟩:=hv;exact⟨c,h1,h.1 _ _ h2⟩|.qU,_,hv=>by simpa only[VR]using hv|.iface _ x,_,hv=>by simp only[VR]at hv⊢;obtain⟨c,h1,h2⟩:=hv;exact⟨c,h1,VR.mono h x _ h2⟩|.Fo,_,hv=>by simpa only[VR]using hv|.agg l,_,hv=>by simp only[VR]at hv⊢;obtain⟨c,h1,h2⟩:=hv;exact⟨c,h1,bZ.mono h l _ h2⟩|.cG l,_,hv=>by simp only[VR]at hv⊢;obtain⟨c,h1,h2⟩:=hv;exact⟨c,h1,bZ.mono h l _ h2⟩theorem bZ.mono{mu mu':M}(h:mu.le mu'):∀(l:List V)(cs:List Value),bZ mu l cs->bZ mu' l cs|[],_,hv=>by simpa only[bZ]using hv|v::l,_,hv=>by simp only[bZ]at hv⊢;obtain⟨c,r,h1,h2,h3⟩:=hv;exact⟨c,r,h1,VR.mono h v _ h2,bZ.mono h l _ h3⟩end
theorem bZ.length{mu:M}:∀{l:List V}{cs:List Value},bZ mu l cs->cs.length=l.length|[],_,h=>by simp only[bZ]at h;subst h;rfl|_::l,_,h=>by simp only[bZ]at h;obtain⟨c,r,rfl,_,h2⟩:=h;simp[bZ.length h2]
theorem bZ.get{mu:M}:∀{l:List V}{cs:List Value},bZ mu l cs->∀{i:Nat}{v:V},l[i]?=some v->∃c,cs[i]?=some c/\VR mu v c|[],_,_,i,v,hi=>by simp at hi|x::l,_,h,i,v,hi=>by simp only[bZ]at h;obtain⟨c,r,rfl,h1,h2⟩:=h;cases i with|zero=>simp at hi;subst hi;exact⟨c,rfl,h1⟩|succ i=>simp only[QW]at hi⊢;exact bZ.get h2 hi
theorem bZ.pn{mu:M}:∀{l:List V}{cs:List Value},cs.length=l.length->(∀(i:Nat)(v:V)(c:Value),l[i]?=some v->cs[i]?=some c->VR mu v c)->bZ mu l cs|[],cs,hl,_=>by simp only[bZ];exact List.length_eq_zero_iff.1 (by simpa using hl)|x::l,[],hl,_=>by simp at hl|x::l,c::r,hl,h=>by simp only[bZ];exact⟨c,r,rfl,h 0 x c rfl rfl,bZ.pn (by simpa using hl) λi v c' h1 h2=>h (i+1) v c' (by simpa using h1) (by simpa using h2)⟩
theorem bZ.append{mu:M}:∀{l m:List V}{cs ds:List Value},bZ mu l cs->bZ mu m ds->bZ mu (l++m) (cs++ds)|[],_,_,_,h,h'=>by simp only[bZ]at h;subst h;simpa using h'|x::l,_,_,_,h,h'=>by simp only[bZ]at h;obtain⟨c,r,rfl,h1,h2⟩:=h;simp only[YK,bZ];exact⟨c,_,rfl,h1,bZ.append h2 h'⟩
def V.one:V->Bool|.agg _|.cG _=>false|_=>true
theorem VR.one{mu:M}{v:V}{c:Value}(h:VR mu v c)(ho:v.one=true):(∀x,c≠.agg x)/\(∀x,c≠.tuple x):=by cases v<;>simp only[VR]at h<;>simp[V.one]at ho<;>first|(subst h;constructor<;>intro x hx<;>cases hx)|(obtain⟨rfl,_⟩:=h;constructor<;>intro x hx<;>cases hx)|(obtain⟨c,rfl,_⟩:=h;constructor<;>intro x hx<;>cases hx)|(obtain⟨c,d,o,sp,rfl,_⟩:=h;constructor<;>intro x hx<;>cases hx)
inductive ep where|dead|cells(l:List V)|bytes(len n:Nat)|map(es:List (V×V))|mark|loop(st jump:Nat)(e:Env)(ps:List Slot)(assign body:RC)|view(l:List V)
def ep.alive:ep->Prop|.dead=>False|_=>True
def jt(mu:M)(l:List V)(c:Array Value)(fr:Nat×Nat):Prop:=(∀(i:Nat)(v:V),l[i]?=some v->v.one=true/\∃cv,c[i]?=some cv/\VR mu v cv)/\∀i,i<c.size->¬(fr.1<=i/\i<fr.2)
def p8{α:Type}(i:I8)(t:N8 α):α:=match t with|.mk a0 a1 a2 a3 a4 a5 a6 a7=>match i with|.i0=>a0|.i1=>a1|.i2=>a2|.i3=>a3|.i4=>a4|.i5=>a5|.i6=>a6|.i7=>a7
def af(s:Slot)(e:Env):V:=match s with|.mk a b c=>p8 c (p8 b (p8 a e))
structure TR(mu:M)(nt:Nat)(e:Env)(tmps:Array Value):Prop where
 size:tmps.size=nt
 le:nt<=512get:∀(t:Nat)(v:Value),tmps[t]?=some v->VR mu (af (bh t) e) v
 rest:∀t,nt<=t->t<512->af (bh t) e=.cG []
theorem TR.mono{mu mu':M}(h:mu.le mu'){nt:Nat}{e:Env}{tmps:Array Value}(ht:TR mu nt e tmps):TR mu' nt e tmps:=⟨ht.size,ht.le,λt v hv=>VR.mono h _ _ (ht.get t v hv),ht.rest⟩
def W9:LoopState->Nat|.ready=>0|.busy=>1|.done=>2|.exhausted=>3
def I4:Nat->Option Code|0=>none|1=>some .ret|n+2=>some (.exit n)
def Kd(x y:V):Prop:=(∃k a b,x=.int k a/\y=.int k b)\/∃l a m b,x=.str l a/\y=.str m b
def fu(ks:List V):Prop:=ks.Nodup/\∀x∈ks,∀y∈ks,Kd x y
def lC(ents:Array MapEntry)(clock:Nat):Prop:=(ents.toList.map (·.born)).Nodup/\∀en∈ents.toList,en.born<clock
def BR(P:Program)(mu:M):ep->Obj->Prop|.dead,_=>True|.cells l,o=>∃c e fr,o=.cells c e fr/\jt mu l c fr/\¬(fr.1<=c.size/\c.size<fr.2)|.bytes len n,o=>∃c e fr,o=.cells c e fr/\(n<256^len/\∀(i:Nat)(x:UInt8),(aC len n)[i]?=some x->c[i]?=some (Value.int .u8 (x.toNat:Int)))/\∀i,i<c.size->¬(fr.1<=i/\i<fr.2)|.map es,o=>∃(ents:Array MapEntry)(clock:Nat)(es':List (V×V)),o=.map ents clock/\es'.Perm es/\fu (es.map (·.1))/\lC ents clock/\bZ mu (es'.map (·.1)) (ents.toList.map (·.key))/\bZ mu (es'.map (·.2)) (ents.toList.map (·.val))|.mark,o=>∃x,o=.deferred x|.view l,o=>∃c e fr,o=.cells c e fr/\∀(i:Nat)(v:V),l[i]?=some v->v.one=true->(∃cv,c[i]?=some cv/\VR mu v cv)/\¬(fr.1<=i/\i<fr.2)|.loop st jump e ps asL bo,o=>∃(r:Loop)(nt fid:Nat),o=.loop r/\W9 r.state=st/\r.pending=I4 jump/\TR mu nt e r.tmps/\gW nt r.params.toList=some ps/\RC.mk nt fid r.assign=asL/\RC.mk nt fid r.body=bo
theorem BR.mono{P:Program}{mu mu':M}(h:mu.le mu'){bl:ep}{o:Obj}(hb:BR P mu bl o):BR P mu' bl o:=by cases bl with|dead=>exact True.intro|cells l=>obtain⟨c,e,fr,h1,⟨h2,h3⟩,h4⟩:=hb;exact⟨c,e,fr,h1,⟨λi v hi=>⟨(h2 i v hi).1,(h2 i v hi).2.imp λcv hcv=>⟨hcv.1,VR.mono h _ _ hcv.2⟩⟩,h3⟩,h4⟩|bytes len n=>exact hb|map es=>obtain⟨ents,clock,es',h1,h4,h5,h6,h2,h3⟩:=hb;exact⟨ents,clock,es',h1,h4,h5,h6,bZ.mono h _ _ h2,bZ.mono h _ _ h3⟩|mark=>exact hb|view l=>obtain⟨c,e,fr,h1,h2⟩:=hb;exact⟨c,e,fr,h1,λi v hi ho=>⟨(h2 i v hi ho).1.imp λcv hcv=>⟨hcv.1,VR.mono h _ _ hcv.2⟩,(h2 i v hi ho).2⟩⟩|loop st jump e ps asL bo=>obtain⟨r,nt,fid,h1,h2,h3,h4,h5⟩:=hb;exact⟨r,nt,fid,h1,h2,h3,h4.mono h,h5⟩
inductive HT where|e|n(v:ep)(l r:HT)
noncomputable def HT.get:HT->Nat->ep:=HT.rec (motive:=λ_=>Nat->ep) (λ_=>.dead) (λv _ _ gl gr k=>Nat.rec (motive:=λ_=>ep) v (λj _=>Nat.rec (motive:=λ_=>ep) (gl (Wm j 2)) (λ_ _=>gr (Wm j 2)) (Yx j 2)) k)
noncomputable def HT.set(x:ep):HT->Nat->(HT->R)->R:=HT.rec (motive:=λ_=>Nat->(HT->R)->R) (λk c=>Nat.rec (motive:=λ_=>R) (c (.n x .e .e)) (λ_ _=>no 1) k) (λu l r sl sr k c=>Nat.rec (motive:=λ_=>R) (c (.n x l r)) (λj _=>Nat.rec (motive:=λ_=>R) (sl (Wm j 2) λl'=>c (.n u l' r)) (λ_ _=>sr (Wm j 2) λr'=>c (.n u l r')) (Yx j 2)) k)
theorem HT.uk(k:Nat):HT.get .e k=.dead:=rfl
theorem HT.EG(v:ep)(l r:HT):HT.get (.n v l r) 0=v:=rfl
theorem HT.cP(v:ep)(l r:HT)(j:Nat):HT.get (.n v l r) (j+1)=if j%2=0then HT.get l (j/2)else HT.get r (j/2):=by show Nat.rec (motive:=λ_=>ep) (HT.get l (j/2)) (λ_ _=>HT.get r (j/2)) (j%2)=_;rcases(by omega:j%2=0\/j%2=1)with h|h<;>rw[h]<;>rfl
theorem HT.Jn{x:ep}:∀(t:HT)(k:Nat)(c:HT->R),t.set x k c=1->∃t',c t'=1/\t'.get k=x/\∀j,j≠k->t'.get j=t.get j:=by intro t;induction t with
 |e=>intro k c h;cases k with
  |zero=>refine⟨_,h,rfl,λj hj=>?_⟩;cases j with|zero=>exact absurd rfl hj|succ j=>rw[cP,uk,uk];simp[uk]
  |succ k=>exact(aw h).elim
 |n u l r ihl ihr=>intro k c h;cases k with
  |zero=>refine⟨_,h,rfl,λj hj=>?_⟩;cases j with|zero=>exact absurd rfl hj|succ j=>rw[cP,cP]
  |succ k=>
   have h':Nat.rec (motive:=λ_=>R) (l.set x (k/2) λl'=>c (.n u l' r)) (λ_ _=>r.set x (k/2) λr'=>c (.n u l r')) (k%2)=1:=h;rcases(by omega:k%2=0\/k%2=1)with hk|hk;.rw[hk]at h';obtain⟨t',h1,h2,h3⟩:=ihl _ _ h';refine⟨_,h1,by rw[cP,if_pos hk];exact h2,λj hj=>?_⟩;cases j with|zero=>rfl|succ j=>
     rw[cP,cP];split;.exact h3 _ (by omega)
     .rfl
   .rw[hk]at h';obtain⟨t',h1,h2,h3⟩:=ihr _ _ h';refine⟨_,h1,by rw[cP,if_neg (by omega)];exact h2,λj hj=>?_⟩;cases j with|zero=>rfl|succ j=>
     rw[cP,cP];split;.rfl
     .exact h3 _ (by omega)
inductive Heap where|mk(n bF:Nat)(t:HT)
noncomputable def Heap.n(h:Heap):Nat:=Heap.rec (λn _ _=>n) h
noncomputable def Heap.bF(h:Heap):Nat:=Heap.rec (λ_ w _=>w) h
noncomputable def Heap.t(h:Heap):HT:=Heap.rec (λ_ _ t=>t) h
noncomputable def Heap.get(h:Heap)(b:Nat):ep:=h.t.get b
def mu(rho:Nat->Option Nat)(H:Heap)(w:World):M:=⟨λb c=>b<H.n/\((H.get b).alive->rho b=some c),λc z=>∃cs e fr,w.heap[c]?=some (.cells cs e fr)/\cs.size=z⟩
def GB(_:Nat):Prop:=False
def GQ(_:World):Prop:=True
theorem vd{w w':World}(_:GQ w)(_:∀c,GB c->w'.heap[c]?=w.heap[c]?):GQ w':=trivial
theorem Gno{w:World}:GQ w/\∀c,GB c->c<w.heap.size:=⟨trivial,λ_ h=>h.elim⟩
def Gl(rho:Nat->Option Nat)(w:World):Prop:=GQ w/\(∀c,GB c->c<w.heap.size)/\∀b c,rho b=some c->¬GB c
structure PR(P:Program)(base:Nat)(w0:World)(rho:Nat->Option Nat)(H:Heap)(w:World):Prop where
 below:Below base w0 w
 cR:base<=w.heap.size
 wn:H.bF<=H.n
 jH:∀b c,rho b=some c->b<H.n/\base<=c/\c<w.heap.size/\(H.get b).alive
 inj:∀b b' c,rho b=some c->rho b'=some c->b=b'
 cV:∀b c,rho b=some c->∃o,w.heap[c]?=some o/\BR P (mu rho H w) (H.get b) o
 out:∀b,H.n<=b->H.get b=.dead
 gl:Gl rho w
structure Ext(rho:Nat->Option Nat)(H:Heap)(w:World)(rho':Nat->Option Nat)(H':Heap)(w':World):Prop where
 n:H.n<=H'.n
 bF:H'.bF<=H.bF
 size:w.heap.size<=w'.heap.size
 cz:∀b,b<H.n->b<H'.bF->H'.get b=H.get b/\rho' b=rho b
 old:∀b c,b<H.n->rho' b=some c->rho b=some c
 live:∀b c,rho b=some c->(H'.get b).alive->rho' b=some c
 qw:∀b,b<H.n->(H'.get b).alive->(H.get b).alive
 new:∀b c,H.n<=b->rho' b=some c->w.heap.size<=c\/∃b0,rho b0=some c/\H'.bF<=b0
 fr:∀c,c<w.heap.size->(∀b,rho b=some c->b<H'.bF)->w'.heap[c]?=w.heap[c]?marks:∀b,H.get b=.mark->H'.get b=.mark/\rho' b=rho b/\∀c,rho b=some c->w'.heap[c]?=w.heap[c]?rows:∀(c:Nat)(cs:Array Value)(e:TypeId)(fr:Nat×Nat),w.heap[c]?=some (.cells cs e fr)->∃cs' e' fr',w'.heap[c]?=some (.cells cs' e' fr')/\cs'.size=cs.size
 loops:∀(c:Nat)(r:Loop),w.heap[c]?=some (.loop r)->∃r',w'.heap[c]?=some (.loop r')
theorem Ext.refl{rho:Nat->Option Nat}{H:Heap}{w:World}(hd:∀b c,rho b=some c->b<H.n):Ext rho H w rho H w:=⟨YC _,YC _,YC _,λ_ _ _=>⟨rfl,rfl⟩,λ_ _ _ h=>h,λ_ _ h _=>h,λ_ _ h=>h,λb c hb h=>absurd (hd b c h) (by omega),λ_ _ _=>rfl,λb h=>⟨h,rfl,λ_ _=>rfl⟩,λc cs e fr h=>⟨cs,e,fr,h,rfl⟩,λc r h=>⟨r,h⟩⟩
theorem Gl.step{rho rho':Nat->Option Nat}{H H':Heap}{w w':World}(h:Gl rho w)(e:Ext rho H w rho' H' w'):Gl rho' w':=by
 obtain⟨h1,h2,h3⟩:=h;refine⟨vd h1 λc hc=>e.fr c (h2 c hc) λb hb=>absurd hc (h3 b c hb),λc hc=>YE (h2 c hc) e.size,λb c hb hc=>?_⟩;by_cases hbn:b<H.n;.exact h3 b c (e.old b c hbn hb) hc
 .rcases e.new b c (by omega) hb with h|⟨b0,h4,_⟩;.have:=h2 c hc;omega
  .exact h3 b0 c h4 hc
theorem Ext.mu{rho rho':Nat->Option Nat}{H H':Heap}{w w':World}(h:Ext rho H w rho' H' w'):(mu rho H w).le (mu rho' H' w'):=⟨λb c⟨h1,h2⟩=>⟨YE h1 h.n,λha=>h.live _ _ (h2 (h.qw b h1 ha)) ha⟩,λc z⟨cs,e,fr,h1,h2⟩=>let⟨cs',e',fr',h3,h4⟩:=h.rows c cs e fr h1;⟨cs',e',fr',h3,h4.trans h2⟩⟩
theorem Ext.trans{r r1 r2:Nat->Option Nat}{H H1 H2:Heap}{w w1 w2:World}(hd:∀b c,r b=some c->b<H.n)(h:Ext r H w r1 H1 w1)(k:Ext r1 H1 w1 r2 H2 w2):Ext r H w r2 H2 w2 where
 n:=Yq h.n k.n;bF:=Yq k.bF h.bF;size:=Yq h.size k.size;cz b hb hw:=by obtain⟨a1,a2⟩:=h.cz b hb (YE hw k.bF);obtain⟨b1,b2⟩:=k.cz b (YE hb h.n) hw;exact⟨b1.trans a1,b2.trans a2⟩
 old b c hb hr:=h.old b c hb (k.old b c (YE hb h.n) hr);live b c hr ha:=by have hb:b<H1.n:=YE (hd b c hr) h.n;exact k.live b c (h.live b c hr (k.qw b hb ha)) ha
 qw b hb ha:=h.qw b hb (k.qw b (YE hb h.n) ha);new b c hb hr:=by
  by_cases hb1:b<H1.n
  .rcases h.new b c hb (k.old b c hb1 hr)with h'|⟨b0,h1,h2⟩;.exact YH h'
   .exact YD ⟨b0,h1,Yq k.bF h2⟩
  .rcases k.new b c (by omega) hr with h'|⟨b0,h1,h2⟩;.exact YH (Yq h.size h')
   .by_cases hb0:b0<H.n;.exact YD ⟨b0,h.old b0 c hb0 h1,h2⟩
    .rcases h.new b0 c (by omega) h1 with h'|⟨b1,h3,h4⟩;.exact YH h'
     .exact YD ⟨b1,h3,Yq k.bF h4⟩
 fr c hc hb:=by
  refine(k.fr c (YE hc h.size) λb hr=>?_).trans (h.fr c hc λb hr=>YE (hb b hr) k.bF);by_cases hb0:b<H.n;.exact hb b (h.old b c hb0 hr)
  .rcases h.new b c (by omega) hr with h'|⟨b1,h3,h4⟩;.omega
   .have:=hb b1 h3;have:=k.bF;omega
 rows c cs e fr hc:=by obtain⟨cs',e',fr',h1,h2⟩:=h.rows c cs e fr hc;obtain⟨cs2,e2,fr2,h3,h4⟩:=k.rows c cs' e' fr' h1;exact⟨cs2,e2,fr2,h3,h4.trans h2⟩
 loops c r hc:=by obtain⟨r',h1⟩:=h.loops c r hc;exact k.loops c r' h1
 marks b hb:=by obtain⟨a1,a2,a3⟩:=h.marks b hb;obtain⟨b1,b2,b3⟩:=k.marks b a1;exact⟨b1,b2.trans a2,λc hc=>(b3 c (a2.trans hc)).trans (a3 c hc)⟩
section
variable{P:Program}{base:Nat}{w0 w w':World}{rho:Nat->Option Nat}{H H':Heap}
theorem PR.lt(h:PR P base w0 rho H w):∀b c,rho b=some c->b<H.n:=λb c hr=>(h.jH b c hr).1
theorem PR.drawn(h:PR P base w0 rho H w)(n:Nat):PR P base w0 rho H {w with drawn:=n}where below:=⟨h.below.os,h.below.tape,h.below.output,h.below.size,h.below.block⟩;cR:=h.cR;wn:=h.wn;jH:=h.jH;inj:=h.inj;cV:=h.cV;out:=h.out;gl:=⟨vd h.gl.1 λ_ _=>rfl,h.gl.2⟩
theorem nZ(h:Below base w0 w)(hos:w'.os=w.os)(htape:w'.tape=w.tape)(hout:w'.output=w.output)(hsz:w.heap.size<=w'.heap.size)(hb:∀k,k<base->w'.heap[k]?=w.heap[k]?):Below base w0 w':=⟨hos.trans h.os,htape.trans h.tape,hout.trans h.output,Yq h.size hsz,λk hk=>(hb k hk).trans (h.block k hk)⟩
theorem PR.Jd(h:PR P base w0 rho H w)(hn:H'.n=H.n)(ht:∀b,H'.get b=H.get b)(hw:H'.bF<=H'.n):PR P base w0 rho H' w:=by have hm:(mu rho H w).le (mu rho H' w):=⟨λb c hm=>⟨by rw[hn];exact hm.1,by rw[ht];exact hm.2⟩,λ_ _ h=>h⟩;exact⟨h.below,h.cR,hw,λb c hr=>by rw[hn,ht];exact h.jH b c hr,h.inj,λb c hr=>by obtain⟨o,h1,h2⟩:=h.cV b c hr;rw[ht];exact⟨o,h1,h2.mono hm⟩,λb hb=>by rw[ht];exact h.out b (by omega),h.gl⟩
structure Ha(w w':World):Prop where
 os:w'.os=w.os
 tape:w'.tape=w.tape
 output:w'.output=w.output
theorem PR.alloc(h:PR P base w0 rho H w){bl:ep}{o:Obj}(hn:H'.n=H.n+1)(hw:H'.bF=H.bF)(hg:H'.get H.n=bl)(ho:∀j,j≠H.n->H'.get j=H.get j)(ha:bl.alive)(hs:Ha w w')(hsz:w'.heap.size=w.heap.size+1)(hnew:w'.heap[w.heap.size]?=some o)(hold:∀j,j<w.heap.size->w'.heap[j]?=w.heap[j]?)(hb:BR P (mu rho H w) bl o):PR P base w0 (λb=>if b=H.n then some w.heap.size else rho b) H' w'/\Ext rho H w (λb=>if b=H.n then some w.heap.size else rho b) H' w':=by
 have hlt:=h.lt;have hE:Ext rho H w (λb=>if b=H.n then some w.heap.size else rho b) H' w':=by
  refine⟨by omega,by omega,by omega,λb hb _=>⟨ho b (by omega),by simp[Qk hb]⟩,λb c hb hr=>?_,λb c hr _=>?_,λb hb hal=>?_,λb c hb hr=>?_,λc hc _=>hold c hc,λb hm=>?_,λc cs e fr hc=>⟨cs,e,fr,(hold c (YP.1 hc).1).trans hc,rfl⟩,λc r hc=>⟨r,(hold c (YP.1 hc).1).trans hc⟩⟩;.simpa[Qk hb]using hr
  .have:=hlt b c hr;simp[Qk this,hr]
  .rwa[ho b (by omega)]at hal
  .by_cases hb':b=H.n;.simp[hb']at hr;omega
   .simp[hb']at hr;have:=hlt b c hr;omega
  .have hb':b≠H.n:=λe=>by subst e;rw[h.out H.n (YC _)]at hm;cases hm
   exact⟨(ho b hb').trans hm,by simp[hb'],λc hc=>hold c (h.jH b c hc).2.2.1⟩
 refine⟨⟨nZ h.below hs.os hs.tape hs.output (by omega) λk hk=>hold k (by have:=h.cR;omega),by have:=h.cR;omega,by have:=h.wn;omega,λb c hr=>?_,λb b' c hr hr'=>?_,λb c hr=>?_,λb hb'=>?_,h.gl.step hE⟩,hE⟩
 .by_cases hb':b=H.n;.subst hb';simp at hr;subst hr;exact⟨by omega,h.cR,by omega,by rw[hg];exact ha⟩
  .simp[hb']at hr;obtain⟨h1,h2,h3,h4⟩:=h.jH b c hr;exact⟨by omega,h2,by omega,by rw[ho b hb'];exact h4⟩
 .by_cases h1:b=H.n<;>by_cases h2:b'=H.n<;>simp[h1,h2]at hr hr';.omega
  .have:=(h.jH b' c hr').2.2.1;omega
  .have:=(h.jH b c hr).2.2.1;omega
  .exact h.inj b b' c hr hr'
 .by_cases hb':b=H.n;.subst hb';simp at hr;subst hr;exact⟨o,hnew,by rw[hg];exact hb.mono hE.mu⟩
  .simp[hb']at hr;obtain⟨o',h1,h2⟩:=h.cV b c hr;refine⟨o',(hold c (h.jH b c hr).2.2.1).trans h1,?_⟩;rw[ho b hb'];exact h2.mono hE.mu
 .rw[ho b (by omega)];exact h.out b (by omega)
theorem PR.write(h:PR P base w0 rho H w){b c:Nat}{bl:ep}{o:Obj}(hr:rho b=some c)(hnm:H.get b≠.mark)(hn:H'.n=H.n)(hw:H'.bF<=H.bF)(hwb:H'.bF<=b)(hg:H'.get b=bl)(ho:∀j,j≠b->H'.get j=H.get j)(ha:bl.alive)(hs:Ha w w')(hsz:w'.heap.size=w.heap.size)(hnew:w'.heap[c]?=some o)(hold:∀j,j≠c->w'.heap[j]?=w.heap[j]?)(hb:BR P (mu rho H w) bl o)(hz:∀cs e fr,w.heap[c]?=some (.cells cs e fr)->∃cs' e' fr',o=.cells cs' e' fr'/\cs'.size=cs.size)(hlp:∀r,w.heap[c]?=some (.loop r)->∃r',o=.loop r'):PR P base w0 rho H' w'/\Ext rho H w rho H' w':=by
 have hlt:=h.lt;have hd:=h.jH b c hr;have hE:Ext rho H w rho H' w':=by
  refine⟨by omega,hw,by omega,λj hj hjw=>⟨ho j (by omega),rfl⟩,λ_ _ _ h=>h,λ_ _ h _=>h,λj hj hal=>?_,λj c' hj hr'=>?_,λj hj hjw=>hold j λe=>?_,λj hm=>⟨(ho j λe=>by subst e;exact hnm hm).trans hm,rfl,λc1 hc1=>hold c1 λe=>hnm (by subst e;rw[<-h.inj j b c1 hc1 hr];exact hm)⟩,λj cs e fr hj=>?_,λj r hj=>?_⟩
  .by_cases hjb:j=b;.subst hjb;exact hd.2.2.2
   .rwa[ho j hjb]at hal
  .have:=hlt j c' hr';omega
  .subst e;have:=hjw b hr;omega
  .by_cases hjc:j=c;.subst hjc;obtain⟨cs',e',fr',h1,h2⟩:=hz cs e fr hj;exact⟨cs',e',fr',by rw[hnew,h1],h2⟩
   .exact⟨cs,e,fr,(hold j hjc).trans hj,rfl⟩
  .by_cases hjc:j=c;.subst hjc;obtain⟨r',h1⟩:=hlp r hj;exact⟨r',by rw[hnew,h1]⟩
   .exact⟨r,(hold j hjc).trans hj⟩
 refine⟨⟨nZ h.below hs.os hs.tape hs.output (by omega) λk hk=>hold k (by omega),by have:=h.cR;omega,by have:=h.wn;omega,λj c' hr'=>?_,h.inj,λj c' hr'=>?_,λj hj=>?_,h.gl.step hE⟩,hE⟩
 .obtain⟨h1,h2,h3,h4⟩:=h.jH j c' hr';refine⟨by omega,h2,by omega,?_⟩;by_cases hjb:j=b;.subst hjb;rw[hg];exact ha
  .rw[ho j hjb];exact h4
 .by_cases hjb:j=b;.subst hjb;rw[hr]at hr';cases hr';exact⟨o,hnew,by rw[hg];exact hb.mono hE.mu⟩
  .obtain⟨o',h1,h2⟩:=h.cV j c' hr';refine⟨o',(hold c' λe=>hjb (h.inj j b c' hr' (e▸hr))).trans h1,?_⟩;rw[ho j hjb];exact h2.mono hE.mu
 .rw[ho j (by omega)];exact h.out j (by omega)
theorem PR.move(h:PR P base w0 rho H w){b c c':Nat}{bl:ep}{o:Obj}(hr:rho b=some c)(hnm:H.get b≠.mark)(hn:H'.n=H.n+1)(hw:H'.bF<=H.bF)(hwb:H'.bF<=b)(hd:H'.get b=.dead)(hg:H'.get H.n=bl)(ho:∀j,j≠b->j≠H.n->H'.get j=H.get j)(ha:bl.alive)(hs:Ha w w')(hsz:w.heap.size<=w'.heap.size)(hc':c'=c\/w.heap.size<=c')(hc'':c'<w'.heap.size)(hnew:w'.heap[c']?=some o)(hold:∀j,j<w.heap.size->j≠c->w'.heap[j]?=w.heap[j]?)(hb:BR P (mu rho H w) bl o)(hz:∀cs e fr,w.heap[c]?=some (.cells cs e fr)->∃cs' e' fr',w'.heap[c]?=some (.cells cs' e' fr')/\cs'.size=cs.size)(hlp:∀r,w.heap[c]?=some (.loop r)->False):PR P base w0 (λj=>if j=H.n then some c' else if j=b then none else rho j) H' w'/\Ext rho H w (λj=>if j=H.n then some c' else if j=b then none else rho j) H' w':=by
 have hlt:=h.lt;have hdm:=h.jH b c hr;have hbn:b≠H.n:=by omega
 have hE:Ext rho H w (λj=>if j=H.n then some c' else if j=b then none else rho j) H' w':=by
  refine⟨by omega,hw,hsz,λj hj hjw=>⟨ho j (by omega) (by omega),(λ(hjb:j≠b)=>by simp[Qk hj,hjb]) (by omega)⟩,λj c1 hj h1=>?_,λj c1 h1 hal=>?_,λj hj hal=>?_,λj c1 hj h1=>?_,λj hj hjw=>hold j hj λe=>?_,λj hm=>?_,λj cs e fr hj=>?_,λj r hj=>⟨r,(hold j (YP.1 hj).1 λe=>hlp r (e▸hj)).trans hj⟩⟩
  .simp only[Qk hj,if_false]at h1;split at h1;.cases h1
   .exact h1
  .have h2:=hlt j c1 h1;by_cases hjb:j=b;.subst hjb;rw[hd]at hal;exact hal.elim
   .simp[Qk h2,hjb,h1]
  .by_cases hjb:j=b;.subst hjb;exact hdm.2.2.2
   .rwa[ho j hjb (by omega)]at hal
  .by_cases hjn:j=H.n
   .simp[hjn]at h1;subst h1;rcases hc' with e|e;.exact YD ⟨b,e▸hr,hwb⟩
    .exact YH e
   .by_cases hjb:j=b;.omega
    .simp[hjn,hjb]at h1;have:=hlt j c1 h1;omega
  .subst e;have:=hjw b hr;omega
  .have h1:j≠H.n:=λe=>by subst e;rw[h.out H.n (YC _)]at hm;cases hm
   have h2:j≠b:=λe=>by subst e;exact hnm hm
   exact⟨(ho j h2 h1).trans hm,by simp[h1,h2],λc1 hc1=>hold c1 (h.jH j c1 hc1).2.2.1 λe=>h2 (h.inj j b c1 hc1 (e▸hr))⟩
  .by_cases hjc:j=c;.subst hjc;exact hz cs e fr hj
   .exact⟨cs,e,fr,(hold j (YP.1 hj).1 hjc).trans hj,rfl⟩
 refine⟨⟨nZ h.below hs.os hs.tape hs.output hsz λk hk=>hold k (by have:=h.cR;omega) (by omega),by have:=h.cR;omega,by have:=h.wn;omega,λj c1 hr'=>?_,λj j' c1 hr1 hr2=>?_,λj c1 hr'=>?_,λj hj=>?_,h.gl.step hE⟩,hE⟩
 .by_cases hjn:j=H.n
  .simp[hjn]at hr';subst hr';subst hjn;refine⟨by omega,?_,hc'',by rw[hg];exact ha⟩;rcases hc' with e|e;.omega
   .have:=h.cR;omega
  .by_cases hjb:j=b;.simp[hjb,hbn]at hr'
   .simp[hjn,hjb]at hr';obtain⟨h1,h2,h3,h4⟩:=h.jH j c1 hr';exact⟨by omega,h2,by omega,by rw[ho j hjb hjn];exact h4⟩
 .have key:∀j,j≠H.n->j≠b->rho j=some c'->False:=by
   intro j _ hj2 hj3;rcases hc' with e|e;.subst e;exact hj2 (h.inj j b c' hj3 hr)
   .have:=(h.jH j c' hj3).2.2.1;omega
  by_cases h1:j=H.n<;>by_cases h2:j'=H.n;.omega
  .by_cases h3:j'=b;.simp[h2,h3,hbn]at hr2
   .simp[h2,h3]at hr2;simp[h1]at hr1;subst hr1;exact(key j' h2 h3 hr2).elim
  .by_cases h3:j=b;.simp[h1,h3,hbn]at hr1
   .simp[h1,h3]at hr1;simp[h2]at hr2;subst hr2;exact(key j h1 h3 hr1).elim
  .by_cases h3:j=b;.simp[h1,h3,hbn]at hr1
   .by_cases h4:j'=b;.simp[h2,h4,hbn]at hr2
    .simp[h1,h3]at hr1;simp[h2,h4]at hr2;exact h.inj j j' c1 hr1 hr2
 .by_cases hjn:j=H.n;.simp[hjn]at hr';subst hr';subst hjn;exact⟨o,hnew,by rw[hg];exact hb.mono hE.mu⟩
  .by_cases hjb:j=b;.simp[hjb,hbn]at hr'
   .simp[hjn,hjb]at hr';obtain⟨o',h1,h2⟩:=h.cV j c1 hr';refine⟨o',(hold c1 (h.jH j c1 hr').2.2.1 λe=>hjb (h.inj j b c1 hr' (e▸hr))).trans h1,?_⟩;rw[ho j hjb hjn];exact h2.mono hE.mu
 .rw[ho j (by omega) (by omega)];exact h.out j (by omega)
end
end Go.Ev
end
section
set_option maxRecDepth 100000
namespace Go.Ev
noncomputable def g80{α:Type}(t:N8 α)(k:α->R):R:=N8.rec (motive:=λ_=>R) (λa0 a1 a2 a3 a4 a5 a6 a7=>k a0) t
noncomputable def u80{α:Type}(t:N8 α)(f:α->(α->R)->R)(k:N8 α->R):R:=N8.rec (motive:=λ_=>R) (λa0 a1 a2 a3 a4 a5 a6 a7=>f a0 λx=>k (N8.mk x a1 a2 a3 a4 a5 a6 a7)) t
noncomputable def g81{α:Type}(t:N8 α)(k:α->R):R:=N8.rec (motive:=λ_=>R) (λa0 a1 a2 a3 a4 a5 a6 a7=>k a1) t
noncomputable def u81{α:Type}(t:N8 α)(f:α->(α->R)->R)(k:N8 α->R):R:=N8.rec (motive:=λ_=>R) (λa0 a1 a2 a3 a4 a5 a6 a7=>f a1 λx=>k (N8.mk a0 x a2 a3 a4 a5 a6 a7)) t
noncomputable def g82{α:Type}(t:N8 α)(k:α->R):R:=N8.rec (motive:=λ_=>R) (λa0 a1 a2 a3 a4 a5 a6 a7=>k a2) t
noncomputable def u82{α:Type}(t:N8 α)(f:α->(α->R)->R)(k:N8 α->R):R:=N8.rec (motive:=λ_=>R) (λa0 a1 a2 a3 a4 a5 a6 a7=>f a2 λx=>k (N8.mk a0 a1 x a3 a4 a5 a6 a7)) t
noncomputable def g83{α:Type}(t:N8 α)(k:α->R):R:=N8.rec (motive:=λ_=>R) (λa0 a1 a2 a3 a4 a5 a6 a7=>k a3) t
noncomputable def u83{α:Type}(t:N8 α)(f:α->(α->R)->R)(k:N8 α->R):R:=N8.rec (motive:=λ_=>R) (λa0 a1 a2 a3 a4 a5 a6 a7=>f a3 λx=>k (N8.mk a0 a1 a2 x a4 a5 a6 a7)) t
noncomputable def g84{α:Type}(t:N8 α)(k:α->R):R:=N8.rec (motive:=λ_=>R) (λa0 a1 a2 a3 a4 a5 a6 a7=>k a4) t
noncomputable def u84{α:Type}(t:N8 α)(f:α->(α->R)->R)(k:N8 α->R):R:=N8.rec (motive:=λ_=>R) (λa0 a1 a2 a3 a4 a5 a6 a7=>f a4 λx=>k (N8.mk a0 a1 a2 a3 x a5 a6 a7)) t
noncomputable def g85{α:Type}(t:N8 α)(k:α->R):R:=N8.rec (motive:=λ_=>R) (λa0 a1 a2 a3 a4 a5 a6 a7=>k a5) t
noncomputable def u85{α:Type}(t:N8 α)(f:α->(α->R)->R)(k:N8 α->R):R:=N8.rec (motive:=λ_=>R) (λa0 a1 a2 a3 a4 a5 a6 a7=>f a5 λx=>k (N8.mk a0 a1 a2 a3 a4 x a6 a7)) t
noncomputable def g86{α:Type}(t:N8 α)(k:α->R):R:=N8.rec (motive:=λ_=>R) (λa0 a1 a2 a3 a4 a5 a6 a7=>k a6) t
noncomputable def u86{α:Type}(t:N8 α)(f:α->(α->R)->R)(k:N8 α->R):R:=N8.rec (motive:=λ_=>R) (λa0 a1 a2 a3 a4 a5 a6 a7=>f a6 λx=>k (N8.mk a0 a1 a2 a3 a4 a5 x a7)) t
noncomputable def g87{α:Type}(t:N8 α)(k:α->R):R:=N8.rec (motive:=λ_=>R) (λa0 a1 a2 a3 a4 a5 a6 a7=>k a7) t
noncomputable def u87{α:Type}(t:N8 α)(f:α->(α->R)->R)(k:N8 α->R):R:=N8.rec (motive:=λ_=>R) (λa0 a1 a2 a3 a4 a5 a6 a7=>f a7 λx=>k (N8.mk a0 a1 a2 a3 a4 a5 a6 x)) t
noncomputable def g8{α:Type}(i:I8):N8 α->(α->R)->R:=I8.rec (motive:=λ_=>N8 α->(α->R)->R) g80 g81 g82 g83 g84 g85 g86 g87 i
noncomputable def u8{α:Type}(i:I8):N8 α->(α->(α->R)->R)->(N8 α->R)->R:=I8.rec (motive:=λ_=>N8 α->(α->(α->R)->R)->(N8 α->R)->R) u80 u81 u82 u83 u84 u85 u86 u87 i
noncomputable def jN(s:Slot)(e:Env)(k:V->R):R:=Slot.rec (motive:=λ_=>R) (λa b c=>g8 a e λt=>g8 b t λu=>g8 c u k) s
noncomputable def Jm(s:Slot)(v:V)(e:Env)(k:Env->R):R:=Slot.rec (motive:=λ_=>R) (λa b c=>u8 a e (λt k1=>u8 b t (λu k2=>u8 c u (λ_ k3=>k3 v) k2) k1) k) s
noncomputable def aK(a:Arg)(e:Env)(k:V->R):R:=Arg.rec (motive:=λ_=>R) (λs=>jN s e k) (λv=>k v) a
noncomputable def oI(l:List Arg)(e:Env):(List V->R)->R:=List.rec (motive:=λ_=>(List V->R)->R) (λk=>k []) (λa _ ih k=>aK a e λv=>ih λr=>k (v::r)) l
noncomputable def av(n:Nat)(k:Nat->R):R:=Nat.rec (motive:=λ_=>R) (k Nat.zero) (λm _=>k (WN m)) n
noncomputable def aI(c:Bool)(t f:R):R:=Bool.rec (motive:=λ_=>R) f t c
noncomputable def cB(id:Nat)(x:V)(k:Nat->Nat->R):R:=V.rec (motive_1:=λ_=>R) (motive_2:=λ_=>R) (k) (λ_=>no 0) (λ_ _=>no 0) (λ_ _=>no 0) (no 0) (λ_ _ _ _ _=>no 0) (no 0) (λ_=>no 0) (no 0) (λ_ _ _=>no 0) (λ_=>no 0) (no 0) (λ_ _ _=>no 0) (no 0) (λ_ _=>no 0) (λ_ _=>no 0) (0:R) (λ_ _ _ _=>(0:R)) x
noncomputable def eK(id:Nat)(x:V)(k:Bool->R):R:=V.rec (motive_1:=λ_=>R) (motive_2:=λ_=>R) (λ_ _=>no 0) (k) (λ_ _=>no 0) (λ_ _=>no 0) (no 0) (λ_ _ _ _ _=>no 0) (no 0) (λ_=>no 0) (no 0) (λ_ _ _=>no 0) (λ_=>no 0) (no 0) (λ_ _ _=>no 0) (no 0) (λ_ _=>no 0) (λ_ _=>no 0) (0:R) (λ_ _ _ _=>(0:R)) x
noncomputable def dU(id:Nat)(x:V)(k:Nat->Nat->R):R:=V.rec (motive_1:=λ_=>R) (motive_2:=λ_=>R) (λ_ _=>no 0) (λ_=>no 0) (k) (λ_ _=>no 0) (no 0) (λ_ _ _ _ _=>no 0) (no 0) (λ_=>no 0) (no 0) (λ_ _ _=>no 0) (λ_=>no 0) (no 0) (λ_ _ _=>no 0) (no 0) (λ_ _=>no 0) (λ_ _=>no 0) (0:R) (λ_ _ _ _=>(0:R)) x
noncomputable def ec(id:Nat)(x:V)(k:Nat->Nat->R):R:=V.rec (motive_1:=λ_=>R) (motive_2:=λ_=>R) (λ_ _=>no 0) (λ_=>no 0) (λ_ _=>no 0) (k) (no 0) (λ_ _ _ _ _=>no 0) (no 0) (λ_=>no 0) (no 0) (λ_ _ _=>no 0) (λ_=>no 0) (no 0) (λ_ _ _=>no 0) (no 0) (λ_ _=>no 0) (λ_ _=>no 0) (0:R) (λ_ _ _ _=>(0:R)) x
noncomputable def lN(id:Nat)(x:V)(k:Nat->Nat->Nat->Nat->Nat->R):R:=V.rec (motive_1:=λ_=>R) (motive_2:=λ_=>R) (λ_ _=>no 0) (λ_=>no 0) (λ_ _=>no 0) (λ_ _=>no 0) (no 0) (k) (no 0) (λ_=>no 0) (no 0) (λ_ _ _=>no 0) (λ_=>no 0) (no 0) (λ_ _ _=>no 0) (no 0) (λ_ _=>no 0) (λ_ _=>no 0) (0:R) (λ_ _ _ _=>(0:R)) x
noncomputable def bD(id:Nat)(x:V)(k:Nat->Nat->Nat->Nat->Nat->R)(z:R):R:=V.rec (motive_1:=λ_=>R) (motive_2:=λ_=>R) (λ_ _=>no 0) (λ_=>no 0) (λ_ _=>no 0) (λ_ _=>no 0) (no 0) (k) (z) (λ_=>no 0) (no 0) (λ_ _ _=>no 0) (λ_=>no 0) (no 0) (λ_ _ _=>no 0) (no 0) (λ_ _=>no 0) (λ_ _=>no 0) (0:R) (λ_ _ _ _=>(0:R)) x
noncomputable def Gz(id:Nat)(x:V)(k:Nat->R):R:=V.rec (motive_1:=λ_=>R) (motive_2:=λ_=>R) (λ_ _=>no 0) (λ_=>no 0) (λ_ _=>no 0) (λ_ _=>no 0) (no 0) (λ_ _ _ _ _=>no 0) (no 0) (k) (no 0) (λ_ _ _=>no 0) (λ_=>no 0) (no 0) (λ_ _ _=>no 0) (no 0) (λ_ _=>no 0) (λ_ _=>no 0) (0:R) (λ_ _ _ _=>(0:R)) x
noncomputable def qA(id:Nat)(x:V)(k:Nat->R)(z:R):R:=V.rec (motive_1:=λ_=>R) (motive_2:=λ_=>R) (λ_ _=>no 0) (λ_=>no 0) (λ_ _=>no 0) (λ_ _=>no 0) (no 0) (λ_ _ _ _ _=>no 0) (no 0) (k) (z) (λ_ _ _=>no 0) (λ_=>no 0) (no 0) (λ_ _ _=>no 0) (no 0) (λ_ _=>no 0) (λ_ _=>no 0) (0:R) (λ_ _ _ _=>(0:R)) x
noncomputable def ym(id:Nat)(x:V)(k:Nat->List V->R):R:=V.rec (motive_1:=λ_=>R) (motive_2:=λ_=>R) (λ_ _=>no 0) (λ_=>no 0) (λ_ _=>no 0) (λ_ _=>no 0) (no 0) (λ_ _ _ _ _=>no 0) (no 0) (λ_=>no 0) (no 0) (λf l _=>k f l) (λ_=>no 0) (no 0) (λ_ _ _=>no 0) (no 0) (λ_ _=>no 0) (λ_ _=>no 0) (0:R) (λ_ _ _ _=>(0:R)) x
noncomputable def iQ(id:Nat)(x:V)(k:List V->R):R:=V.rec (motive_1:=λ_=>R) (motive_2:=λ_=>R) (λ_ _=>no 0) (λ_=>no 0) (λ_ _=>no 0) (λ_ _=>no 0) (no 0) (λ_ _ _ _ _=>no 0) (no 0) (λ_=>no 0) (no 0) (λ_ _ _=>no 0) (λ_=>no 0) (no 0) (λ_ _ _=>no 0) (no 0) (λl _=>k l) (λ_ _=>no 0) (0:R) (λ_ _ _ _=>(0:R)) x
noncomputable def vIf(id t:Nat)(x:V)(k:V->R):R:=V.rec (motive_1:=λ_=>R) (motive_2:=λ_=>R) (λ_ _=>no 0) (λ_=>no 0) (λ_ _=>no 0) (λ_ _=>no 0) (no 0) (λ_ _ _ _ _=>no 0) (no 0) (λ_=>no 0) (no 0) (λ_ _ _=>no 0) (λ_=>no 0) (no 0) (λt' v _=>aI (YN t' t) (k v) (no 0)) (no 0) (λ_ _=>no 0) (λ_ _=>no 0) (0:R) (λ_ _ _ _=>(0:R)) x
noncomputable def zy(id:Nat)(x:V)(k:List V->R):R:=V.rec (motive_1:=λ_=>R) (motive_2:=λ_=>R) (λ_ _=>no 0) (λ_=>no 0) (λ_ _=>no 0) (λ_ _=>no 0) (no 0) (λ_ _ _ _ _=>no 0) (no 0) (λ_=>no 0) (no 0) (λ_ _ _=>no 0) (λ_=>no 0) (no 0) (λ_ _ _=>no 0) (no 0) (λ_ _=>no 0) (λl _=>k l) (0:R) (λ_ _ _ _=>(0:R)) x
noncomputable def nth(id:Nat)(l:List V):Nat->(V->R)->R:=List.rec (motive:=λ_=>Nat->(V->R)->R) (λ_ _=>no 0) (λv _ ih i k=>Nat.rec (motive:=λ_=>R) (k v) (λj _=>ih j k) i) l
noncomputable def takeN(id:Nat)(l:List V):Nat->(List V->R)->R:=List.rec (motive:=λ_=>Nat->(List V->R)->R) (λi k=>Nat.rec (motive:=λ_=>R) (k []) (λ_ _=>no 0) i) (λv _ ih i k=>Nat.rec (motive:=λ_=>R) (k []) (λj _=>ih j λr=>k (v::r)) i) l
noncomputable def fC(id:Nat)(l:List V):Nat->(List V->R)->R:=List.rec (motive:=λ_=>Nat->(List V->R)->R) (λi k=>Nat.rec (motive:=λ_=>R) (k []) (λ_ _=>no 0) i) (λv l ih i k=>Nat.rec (motive:=λ_=>R) (k (v::l)) (λj _=>ih j k) i) l
noncomputable def jJ(l m:List V):(List V->R)->R:=List.rec (motive:=λ_=>(List V->R)->R) (λk=>k m) (λv _ ih k=>ih λr=>k (v::r)) l
noncomputable def over(id:Nat)(m:List V):List V->(List V->R)->R:=List.rec (motive:=λ_=>List V->(List V->R)->R) (λl k=>k l) (λx _ ih l k=>List.rec (motive:=λ_=>R) (no 0) (λ_ r _=>ih r λq=>k (x::q)) l) m
noncomputable def setAt(id:Nat)(m l:List V):Nat->(List V->R)->R:=List.rec (motive:=λ_=>Nat->(List V->R)->R) (λi k=>Nat.rec (motive:=λ_=>R) (over id m [] k) (λ_ _=>no 0) i) (λv l ih i k=>Nat.rec (motive:=λ_=>R) (over id m (v::l) k) (λj _=>ih j λr=>k (v::r)) i) l
noncomputable def ft(l:List V):Nat:=List.rec (motive:=λ_=>Nat) 0 (λ_ _ ih=>WN ih) l
noncomputable def VU(m:List V)(n:Nat):(List V->R)->R:=Nat.rec (motive:=λ_=>(List V->R)->R) (λk=>k []) (λ_ ih k=>ih λr=>jJ m r k) n
noncomputable def dP(id:Nat)(x:V)(k:R):R:=V.rec (motive_1:=λ_=>R) (motive_2:=λ_=>R) (λ_ _=>k) (λ_=>k) (λ_ _=>k) (λ_ _=>k) (k) (λ_ _ _ _ _=>k) (k) (λ_=>k) (k) (λ_ _ _=>k) (λ_=>k) (k) (λ_ _ _=>k) (k) (λ_ _=>no 0) (λ_ _=>no 0) (0:R) (λ_ _ _ _=>(0:R)) x
noncomputable def bA(id:Nat)(l:List V)(k:R):R:=List.rec (motive:=λ_=>R) k (λv _ ih=>dP id v ih) l
noncomputable def iw(id:Nat)(l:List V):(Nat->Nat->R)->R:=List.rec (motive:=λ_=>(Nat->Nat->R)->R) (λk=>k 0 0) (λv _ ih k=>cB id v λkd x=>aI (YN kd 4) (ih λlen n=>av (Yf x (Ym 256 n)) λn'=>av (WN len) λlen'=>k len' n') (no 0)) l
noncomputable def qd(len:Nat):Nat->(List V->R)->R:=Nat.rec (motive:=λ_=>Nat->(List V->R)->R) (λ_ k=>k []) (λ_ ih n k=>av (Yx n 256) λx=>av (Wm n 256) λn'=>ih n' λr=>k (.int 4 x::r)) len
noncomputable def dK(id:Nat)(x:V)(k:List V->R):R:=V.rec (motive_1:=λ_=>R) (motive_2:=λ_=>R) (λkd n=>k [.int kd n]) (λb=>k [.bool b]) (λl n=>k [.str l n]) (λb o=>k [.ptr b o]) (k [.pj]) (λb o l c s=>k [.slice b o l c s]) (k [.aD]) (λb=>k [.map b]) (k [.uU]) (λf l ih=>k [.func f l]) (λb=>k [.sJ b]) (k [.qU]) (λt v ih=>k [.iface t v]) (k [.Fo]) (λl _=>k l) (λ_ _=>no 0) (0:R) (λ_ _ _ _=>(0:R)) x
noncomputable def tV(id:Nat)(b:ep)(kc:List V->R)(kb:Nat->Nat->R):R:=ep.rec (motive:=λ_=>R) (no 0) kc kb (λ_=>no 0) (no 0) (λ_ _ _ _ _ _=>no 0) (λ_=>no 0) b
noncomputable def bRd(id:Nat)(b:ep)(kc:List V->R)(kb:Nat->Nat->R)(kv:List V->R):R:=ep.rec (motive:=λ_=>R) (no 0) kc kb (λ_=>no 0) (no 0) (λ_ _ _ _ _ _=>no 0) kv b
noncomputable def rK(id:Nat)(b:ep)(km:List (V×V)->R):R:=ep.rec (motive:=λ_=>R) (no 0) (λ_=>no 0) (λ_ _=>no 0) km (no 0) (λ_ _ _ _ _ _=>no 0) (λ_=>no 0) b
noncomputable def eS(b:ep)(k:Nat->Nat->Env->List Slot->RC->RC->R):R:=ep.rec (motive:=λ_=>R) (no 9) (λ_=>no 9) (λ_ _=>no 9) (λ_=>no 9) (no 9) k (λ_=>no 9) b
noncomputable def dv(H:Heap)(b:Nat)(k:ep->R):R:=Heap.rec (motive:=λ_=>R) (λ_ _ t=>k (HT.get t b)) H
noncomputable def cZ(id:Nat)(H:Heap)(b:Nat)(x:ep)(k:Heap->R):R:=Heap.rec (motive:=λ_=>R) (λn bF t=>aI (Yz b n) (HT.set x t b λt'=>aI (Yb bF b) (k (.mk n bF t')) (k (.mk n b t'))) (no 0)) H
noncomputable def cA(H:Heap)(x:ep)(k:Nat->Heap->R):R:=Heap.rec (motive:=λ_=>R) (λn bF t=>HT.set x t n λt'=>av (WN n) λn'=>k n (.mk n' bF t')) H
noncomputable def nE(id:Nat)(H:Heap)(b off:Nat)(k:V->R):R:=dv H b λbl=>tV id bl (λl=>nth id l off k) λlen n=>aI (Yz off len) (av (YB3 (WC n (Ym 8 off)) 255) λx=>k (.int 4 x)) (no 0)
noncomputable def K2(id:Nat)(H:Heap)(b off:Nat)(k:V->R):R:=dv H b λbl=>bRd id bl (λl=>nth id l off k) (λlen n=>aI (Yz off len) (av (YB3 (WC n (Ym 8 off)) 255) λx=>k (.int 4 x)) (no 0)) λl=>nth id l off λv=>dP id v (k v)
noncomputable def FC(id:Nat)(H:Heap)(b off n:Nat)(k:List V->R):R:=dv H b λbl=>bRd id bl (λl=>fC id l off λr=>takeN id r n k) (λlen x=>aI (Yb (Yf off n) len) (qd n (WC x (Ym 8 off)) k) (no 0)) λl=>fC id l off λr=>takeN id r n λq=>bA id q (k q)
noncomputable def eH(id:Nat)(H:Heap)(b off n:Nat)(k:List V->R):R:=dv H b λbl=>tV id bl (λl=>fC id l off λr=>takeN id r n k) λlen x=>aI (Yb (Yf off n) len) (qd n (WC x (Ym 8 off)) k) (no 0)
noncomputable def mh(id:Nat)(H:Heap)(b off n:Nat)(k:Nat->R):R:=dv H b λbl=>tV id bl (λl=>fC id l off λr=>takeN id r n λq=>iw id q λ_ x=>k x) λlen x=>aI (Yb (Yf off n) len) (av (Yx (WC x (Ym 8 off)) (YE1 256 n)) k) (no 0)
noncomputable def dO(id:Nat)(H:Heap)(b off:Nat)(m:List V)(k:Heap->R):R:=dv H b λbl=>tV id bl (λl=>bA id m (setAt id m l off λl'=>cZ id H b (.cells l') k)) λlen x=>iw id m λml mx=>aI (Yb (Yf off ml) len) (av (Yf (Yx x (YE1 256 off)) (Yt (Yf mx (Yt (WC x (Ym 8 (Yf off ml))) (Ym 8 ml))) (Ym 8 off))) λx'=>cZ id H b (.bytes len x') k) (no 0)
noncomputable def gk(id:Nat)(f:BF):Nat->Nat->(Nat->R)->R:=BF.rec (motive:=λ_=>Nat->Nat->(Nat->R)->R) (λm a b k=>av (Yx (Yf a b) m) k) (λm a b k=>av (Yx (Yf a (QN m b)) m) k) (λm a b k=>av (Yx (Ym a b) m) k) (λa b k=>av (YB3 a b) k) (λa b k=>av (Nat.lor a b) k) (λa b k=>av (YQ0 a b) k) (λm a b k=>av (YB3 a (YQ0 b (Nat.pred m))) k) (λm bits a b k=>aI (Yb b bits) (av (Yx (Yt a b) m) k) (aI (Yz b 9223372036854775808) (k 0) (no 0))) (λhalf bits a b k=>aI (Yz a half) (aI (Yb b bits) (av (WC a b) k) (aI (Yz b 9223372036854775808) (k 0) (no 0))) (no 0)) (λhalf a b k=>aI (Yz a half) (aI (Yz b half) (aI (YN b 0) (no 0) (av (Wm a b) k)) (no 0)) (no 0)) (λhalf a b k=>aI (Yz a half) (aI (Yz b half) (aI (YN b 0) (no 0) (av (Yx a b) k)) (no 0)) (no 0)) f
noncomputable def dQ(f:CF):Nat->Nat->Bool:=CF.rec (motive:=λ_=>Nat->Nat->Bool) (λa b=>YN a b) (λa b=>Bool.rec true false (YN a b)) (λo m a b=>Yz (Yx (Yf a o) m) (Yx (Yf b o) m)) (λo m a b=>Yb (Yx (Yf a o) m) (Yx (Yf b o) m)) (λo m a b=>Yz (Yx (Yf b o) m) (Yx (Yf a o) m)) (λo m a b=>Yb (Yx (Yf b o) m) (Yx (Yf a o) m)) f
abbrev K:=V->Heap->R
abbrev dm:=V->List V->Heap->K->R
noncomputable def agt(id:Nat)(ph:dm)(e:Env)(H:Heap)(k:K):R:=no 0
noncomputable def agu(x:Arg)(id:Nat)(ph:dm)(e:Env)(H:Heap)(k:K):R:=aK x e λv=>k v H
noncomputable def adK(c x y:Arg)(id:Nat)(ph:dm)(e:Env)(H:Heap)(k:K):R:=aK c e λc=>eK id c λb=>aI b (aK x e λv=>k v H) (aK y e λv=>k v H)
noncomputable def adJ(z:List V)(id:Nat)(ph:dm)(e:Env)(H:Heap)(k:K):R:=cA H (.cells z) λn H=>k (.ptr n 0) H
noncomputable def adI(n:Nat)(id:Nat)(ph:dm)(e:Env)(H:Heap)(k:K):R:=cA H (.bytes n 0) λn H=>k (.ptr n 0) H
noncomputable def Rl(x:Arg)(id:Nat)(ph:dm)(e:Env)(H:Heap)(k:K):R:=aK x e λv=>dK id v λl=>bA id l (cA H (.cells l) λn H=>k (.ptr n 0) H)
noncomputable def ku(id:Nat)(e:Env)(parts:List (Nat×Nat×Arg)):List V->(List V->R)->R:=List.rec (motive:=λ_=>List V->(List V->R)->R) (λz k=>k z) (λp _ ih z k=>YJ2 (motive:=λ_=>R) (λoff q=>YJ2 (motive:=λ_=>R) (λsize a=>aK a e λv=>dK id v λl=>aI (YN (ft l) size) (setAt id l z off λz'=>ih z' k) (no 0)) q) p) parts
noncomputable def Rm(zero:List V)(parts:List (Nat×Nat×Arg))(id:Nat)(ph:dm)(e:Env)(H:Heap)(k:K):R:=ku id e parts zero λl=>k (.agg l) H
noncomputable def Bv(u8:Bool)(len:Nat)(zero:List V)(parts:List (Nat×Nat×Arg))(id:Nat)(ph:dm)(e:Env)(H:Heap)(k:K):R:=ku id e parts zero λl=>aI u8 (iw id l λln n=>cA H (.bytes ln n) λb H=>k (.slice b 0 len (WN len) 0) H) (bA id l (cA H (.cells l) λb H=>k (.slice b 0 len (WN len) 0) H))
noncomputable def qM(a:Arg)(id:Nat)(ph:dm)(e:Env)(H:Heap)(k:K):R:=aK a e λa=>ec id a λb o=>K2 id H b o λv=>k v H
noncomputable def qN(n:Nat)(a:Arg)(id:Nat)(ph:dm)(e:Env)(H:Heap)(k:K):R:=aK a e λa=>ec id a λb o=>FC id H b o n λl=>k (.agg l) H
noncomputable def vu(a x:Arg)(id:Nat)(ph:dm)(e:Env)(H:Heap)(k:K):R:=aK a e λa=>ec id a λb o=>aK x e λx=>dP id x (dO id H b o [x] λH=>k (.cG []) H)
noncomputable def vv(n:Nat)(a x:Arg)(id:Nat)(ph:dm)(e:Env)(H:Heap)(k:K):R:=aK a e λa=>ec id a λb o=>aK x e λx=>iQ id x λl=>aI (YN (ft l) n) (dO id H b o l λH=>k (.cG []) H) (no 0)
noncomputable def Kx(x:Arg)(id:Nat)(ph:dm)(e:Env)(H:Heap)(k:K):R:=aK x e λv=>V.rec (motive_1:=λ_=>R) (motive_2:=λ_=>R) (λkd n=>k (.int kd n) H) (λb=>k (.bool b) H) (λl n=>k (.str l n) H) (λb o=>k (.ptr b o) H) (no 0) (λb o l c s=>k (.slice b o l c s) H) (k .aD H) (λb=>k (.map b) H) (k .uU H) (λf l ih=>k (.func f l) H) (λb=>k (.sJ b) H) (no 0) (λt v ih=>k (.iface t v) H) (no 0) (λl ih=>k (.agg l) H) (λl ih=>k (.cG l) H) (0:R) (λ_ _ _ _=>(0:R)) v
noncomputable def MB(kd ky:Nat)(f:BF)(x y:Arg)(id:Nat)(ph:dm)(e:Env)(H:Heap)(k:K):R:=aK x e λx=>cB id x λk1 a=>aK y e λy=>cB id y λk2 b=>aI (YN k1 kd) (aI (YN k2 ky) (gk id f a b λr=>k (.int kd r) H) (no 0)) (no 0)
noncomputable def aai(kd:Nat)(f:CF)(x y:Arg)(id:Nat)(ph:dm)(e:Env)(H:Heap)(k:K):R:=aK x e λx=>cB id x λk1 a=>aK y e λy=>cB id y λk2 b=>aI (YN k1 kd) (aI (YN k2 kd) (aI (dQ f a b) (k (.bool true) H) (k (.bool false) H)) (no 0)) (no 0)
noncomputable def Ec(x y:Arg)(id:Nat)(ph:dm)(e:Env)(H:Heap)(k:K):R:=aK x e λx=>dU id x λl1 n1=>aK y e λy=>dU id y λl2 n2=>av (Yf l1 l2) λl=>aI (Yz l 9223372036854775808) (av (Yf n1 (Yt n2 (Ym 8 l1))) λn=>k (.str l n) H) (no 0)
noncomputable def RB(neg:Bool)(x y:Arg)(id:Nat)(ph:dm)(e:Env)(H:Heap)(k:K):R:=aK x e λx=>dU id x λl1 n1=>aK y e λy=>dU id y λl2 n2=>aI (YN l1 l2) (aI (YN n1 n2) (aI neg (k (.bool false) H) (k (.bool true) H)) (k (.bool neg) H)) (k (.bool neg) H)
noncomputable def fX(id:Nat)(x:V)(k:Nat->R):R:=V.rec (motive_1:=λ_=>R) (motive_2:=λ_=>R) (λ_ _=>no 0) (λb=>aI b (k 2) (k 3)) (λ_ _=>no 0) (λ_ _=>k 11) (k 10) (λ_ _ _ _ _=>k 21) (k 20) (λ_=>k 31) (k 30) (λ_ _ _=>k 41) (λ_=>no 0) (k 40) (λ_ _ _=>k 51) (k 50) (λ_ _=>no 0) (λ_ _=>no 0) (0:R) (λ_ _ _ _=>(0:R)) x
noncomputable def UP(kc:Nat)(neg:Bool)(x y:Arg)(id:Nat)(ph:dm)(e:Env)(H:Heap)(k:K):R:=aK x e λx=>fX id x λa=>aK y e λy=>fX id y λb=>aI (YN (Wm a 10) kc) (aI (YN (Wm b 10) kc) (aI (YN a b) (aI (YN (Yx a 10) 1) (no 0) (aI neg (k (.bool false) H) (k (.bool true) H))) (k (.bool neg) H)) (no 0)) (no 0)
noncomputable def Rw(x:Arg)(id:Nat)(ph:dm)(e:Env)(H:Heap)(k:K):R:=aK x e λx=>eK id x λb=>aI b (k (.bool false) H) (k (.bool true) H)
noncomputable def Ia(src dst mode c:Nat)(x:Arg)(id:Nat)(ph:dm)(e:Env)(H:Heap)(k:K):R:=aK x e λx=>cB id x λk1 a=>aI (YN k1 src) (Nat.rec (motive:=λ_=>R) (av (Yx a c) λr=>k (.int dst r) H) (λ_ _=>aI (Yz a mode) (k (.int dst a) H) (av (Yf a c) λr=>k (.int dst r) H)) mode) (no 0)
noncomputable def wK(x:Arg)(id:Nat)(ph:dm)(e:Env)(H:Heap)(k:K):R:=aK x e λx=>bD id x (λb o l _ _=>mh id H b o l λn=>k (.str l n) H) (k (.str 0 0) H)
noncomputable def wL(x:Arg)(id:Nat)(ph:dm)(e:Env)(H:Heap)(k:K):R:=aK x e λx=>dU id x λl n=>aI (Yb l 16777216) (cA H (.bytes l n) λb H=>k (.slice b 0 l 0 1) H) (no 0)
noncomputable def aat(t:Nat)(x:Arg)(id:Nat)(ph:dm)(e:Env)(H:Heap)(k:K):R:=aK x e λx=>vIf id t x λv=>k (.cG [v,.bool true]) H
noncomputable def aan(t:Nat)(x:Arg)(id:Nat)(ph:dm)(e:Env)(H:Heap)(k:K):R:=aK x e λv=>k (.iface t v) H
noncomputable def Rz(f:Nat)(caps:List Arg)(id:Nat)(ph:dm)(e:Env)(H:Heap)(k:K):R:=oI caps e λl=>k (.func f l) H
noncomputable def aao(id:Nat)(ph:dm)(e:Env)(H:Heap)(k:K):R:=cA H (.map []) λb H=>k (.map b) H
noncomputable def wM(u8:Bool)(zero:List V)(l c:Arg)(id:Nat)(ph:dm)(e:Env)(H:Heap)(k:K):R:=aK l e λl=>cB id l λkl l=>aK c e λc=>cB id c λkc c=>aI (Yb 3 kl) (aI (Yb 3 kc) (aI (Yb l c) (aI (Yb c 16777216) (aI u8 (cA H (.bytes c 0) λb H=>av (WN c) λc1=>k (.slice b 0 l c1 0) H) (VU zero c λr=>bA id r (cA H (.cells r) λb H=>av (WN c) λc1=>k (.slice b 0 l c1 0) H))) (no 0)) (no 0)) (no 0)) (no 0)
noncomputable def gH(id:Nat)(x:Option Arg)(e:Env)(d:Nat)(k:Nat->R):R:=Option.rec (motive:=λ_=>R) (k d) (λa=>aK a e λv=>cB id v λkd n=>aI (Yb 3 kd) (aI (Yz n 9223372036854775808) (k n) (no 0)) (no 0)) x
noncomputable def aar(x:Arg)(lo hi:Option Arg)(id:Nat)(ph:dm)(e:Env)(H:Heap)(k:K):R:=aK x e λx=>dU id x λlen n=>gH id hi e len λh=>gH id lo e 0 λl=>aI (Yb l h) (aI (Yb h len) (av (QN h l) λd=>av (Yx (WC n (Ym 8 l)) (YE1 256 d)) λr=>k (.str d r) H) (no 0)) (no 0)
noncomputable def aas(size:Nat)(x:Arg)(lo hi mx:Option Arg)(id:Nat)(ph:dm)(e:Env)(H:Heap)(k:K):R:=aK x e λx=>bD id x (λb o len cp sz=>gH id lo e 0 λl=>gH id hi e len λh=>aI (Yb l h) (av (QN h l) λd=>Option.rec (motive:=λ_=>R) (Nat.rec (motive:=λ_=>R) (aI (Yb h len) (aI (YN sz size) (av (Yf o (Ym l size)) λo'=>k (.slice b o' d 0 sz) H) (no 0)) (no 0)) (λq _=>aI (Yb h q) (aI (YN q l) (k (.slice b o d 1 0) H) (av (Yf o (Ym l size)) λo'=>av (WN (QN q l)) λc'=>k (.slice b o' d c' 0) H)) (no 0)) cp) (λm=>gH id (some m) e 0 λm=>aI (Yb h m) (aI (Yb m (Nat.rec (motive:=λ_=>Nat) len (λq _=>q) cp)) (aI (YN m l) (k (.slice b o d 1 0) H) (av (Yf o (Ym l size)) λo'=>av (WN (QN m l)) λc'=>k (.slice b o' d c' 0) H)) (no 0)) (no 0)) mx) (no 0)) (gH id lo e 0 λl=>gH id hi e 0 λh=>gH id mx e 0 λm=>aI (YN l 0) (aI (YN h 0) (aI (YN m 0) (k .aD H) (no 0)) (no 0)) (no 0))
noncomputable def aaq(n size:Nat)(x:Arg)(lo hi mx:Option Arg)(id:Nat)(ph:dm)(e:Env)(H:Heap)(k:K):R:=aK x e λx=>ec id x λb o=>gH id mx e n λm=>gH id hi e n λh=>gH id lo e 0 λl=>aI (Yb l h) (aI (Yb h m) (aI (Yb m n) (av (QN h l) λd=>aI (YN m l) (k (.slice b o d 1 0) H) (av (Yf o (Ym l size)) λo'=>av (WN (QN m l)) λc'=>k (.slice b o' d c' 0) H)) (no 0)) (no 0)) (no 0)
noncomputable def Rq(off:Nat)(x:Arg)(id:Nat)(ph:dm)(e:Env)(H:Heap)(k:K):R:=aK x e λx=>ec id x λb o=>av (Yf o off) λo'=>k (.ptr b o') H
noncomputable def Rr(off:Nat)(x:Arg)(id:Nat)(ph:dm)(e:Env)(H:Heap)(k:K):R:=aK x e λx=>iQ id x λl=>nth id l off λv=>k v H
noncomputable def Rs(off n:Nat)(x:Arg)(id:Nat)(ph:dm)(e:Env)(H:Heap)(k:K):R:=aK x e λx=>iQ id x λl=>fC id l off λr=>takeN id r n λq=>k (.agg q) H
noncomputable def idx(id:Nat)(i:Arg)(e:Env)(len:Nat)(k:Nat->R):R:=aK i e λv=>cB id v λkd n=>aI (Yb 3 kd) (aI (Yz n len) (aI (Yz n 9223372036854775808) (k n) (no 0)) (no 0)) (no 0)
noncomputable def aaj(len size:Nat)(x i:Arg)(id:Nat)(ph:dm)(e:Env)(H:Heap)(k:K):R:=aK x e λx=>ec id x λb o=>idx id i e len λn=>av (Yf o (Ym n size)) λo'=>k (.ptr b o') H
noncomputable def aam(size:Nat)(x i:Arg)(id:Nat)(ph:dm)(e:Env)(H:Heap)(k:K):R:=aK x e λx=>lN id x λb o len _ _=>idx id i e len λn=>av (Yf o (Ym n size)) λo'=>k (.ptr b o') H
noncomputable def aal(x i:Arg)(id:Nat)(ph:dm)(e:Env)(H:Heap)(k:K):R:=aK x e λx=>dU id x λlen m=>idx id i e len λn=>av (YB3 (WC m (Ym 8 n)) 255) λr=>k (.int 4 r) H
noncomputable def aak(len size:Nat)(agg:Bool)(x i:Arg)(id:Nat)(ph:dm)(e:Env)(H:Heap)(k:K):R:=aK x e λx=>iQ id x λl=>idx id i e len λn=>aI agg (fC id l (Ym n size) λr=>takeN id r size λq=>k (.agg q) H) (nth id l (Ym n size) λv=>k v H)
noncomputable def KG(id:Nat)(ks:Bool)(x y:V)(k:Bool->R):R:=V.rec (motive_1:=λ_=>R) (motive_2:=λ_=>R) (λk1 a=>cB id y λk2 b=>aI ks (no 0) (aI (YN k1 k2) (k (YN a b)) (no 0))) (λ_=>no 0) (λl1 a=>dU id y λl2 b=>aI ks (aI (YN l1 l2) (k (YN a b)) (k false)) (no 0)) (λ_ _=>no 0) (no 0) (λ_ _ _ _ _=>no 0) (no 0) (λ_=>no 0) (no 0) (λ_ _ _=>no 0) (λ_=>no 0) (no 0) (λ_ _ _=>no 0) (no 0) (λ_ _=>no 0) (λ_ _=>no 0) (0:R) (λ_ _ _ _=>(0:R)) x
noncomputable def uu(id:Nat)(ks:Bool)(es:List (V×V))(x:V)(f:V->R)(z:R):R:=List.rec (motive:=λ_=>R) z (λp _ ih=>YJ2 (motive:=λ_=>R) (λa v=>KG id ks x a λb=>aI b (f v) ih) p) es
noncomputable def F4(id:Nat)(ks:Bool)(es:List (V×V))(x y:V):(List (V×V)->R)->R:=List.rec (motive:=λ_=>(List (V×V)->R)->R) (λk=>k [(x,y)]) (λp l ih k=>YJ2 (motive:=λ_=>R) (λa v=>KG id ks x a λb=>aI b (k ((a,y)::l)) (ih λr=>k ((a,v)::r))) p) es
noncomputable def adH(id:Nat)(ks:Bool)(es:List (V×V))(x:V):(List (V×V)->R)->R:=List.rec (motive:=λ_=>(List (V×V)->R)->R) (λk=>k []) (λp l ih k=>YJ2 (motive:=λ_=>R) (λa v=>KG id ks x a λb=>aI b (k l) (ih λr=>k ((a,v)::r))) p) es
noncomputable def Rx(ks:Bool)(zero:V)(ok:Bool)(m x:Arg)(id:Nat)(ph:dm)(e:Env)(H:Heap)(k:K):R:=aK m e λm=>aK x e λx=>qA id m (λb=>dv H b λbl=>rK id bl λes=>uu id ks es x (λv=>aI ok (k (.cG [v,.bool true]) H) (k v H)) (aI ok (k (.cG [zero,.bool false]) H) (k zero H))) (aI ok (k (.cG [zero,.bool false]) H) (k zero H))
noncomputable def isKey(id:Nat)(x:V)(k:R):R:=V.rec (motive_1:=λ_=>R) (motive_2:=λ_=>R) (λ_ _=>k) (λ_=>no 0) (λ_ _=>k) (λ_ _=>no 0) (no 0) (λ_ _ _ _ _=>no 0) (no 0) (λ_=>no 0) (no 0) (λ_ _ _=>no 0) (λ_=>no 0) (no 0) (λ_ _ _=>no 0) (no 0) (λ_ _=>no 0) (λ_ _=>no 0) (0:R) (λ_ _ _ _=>(0:R)) x
noncomputable def RA(ks:Bool)(m x y:Arg)(id:Nat)(ph:dm)(e:Env)(H:Heap)(k:K):R:=aK m e λm=>aK x e λx=>aK y e λy=>Gz id m λb=>dv H b λbl=>rK id bl λes=>isKey id x (F4 id ks es x y λes'=>cZ id H b (.map es') λH=>k (.cG []) H)
noncomputable def Ry(ks:Bool)(m x:Arg)(id:Nat)(ph:dm)(e:Env)(H:Heap)(k:K):R:=aK m e λm=>aK x e λx=>Gz id m λb=>dv H b λbl=>rK id bl λes=>adH id ks es x λes'=>cZ id H b (.map es') λH=>k (.cG []) H
noncomputable def Rp(x:Arg)(i:Nat)(id:Nat)(ph:dm)(e:Env)(H:Heap)(k:K):R:=aK x e λx=>zy id x λl=>nth id l i λv=>k v H
noncomputable def Rn(f:Nat)(args:List Arg)(id:Nat)(ph:dm)(e:Env)(H:Heap)(k:K):R:=oI args e λl=>ph (.func f []) l H k
noncomputable def HZ(x:Arg)(args:List Arg)(id:Nat)(ph:dm)(e:Env)(H:Heap)(k:K):R:=aK x e λx=>oI args e λl=>ph x l H k
noncomputable def cX(id:Nat)(size:Nat)(H:Heap)(x:V)(k:Nat->List V->R):R:=V.rec (motive_1:=λ_=>R) (motive_2:=λ_=>R) (λ_ _=>no 0) (λ_=>no 0) (λl n=>aI (YN size 1) (qd l n λm=>k l m) (no 0)) (λ_ _=>no 0) (no 0) (λb o l _ _=>Nat.rec (motive:=λ_=>R) (k 0 []) (λ_ _=>FC id H b o (Ym l size) λm=>k l m) l) (k 0 []) (λ_=>no 0) (no 0) (λ_ _ _=>no 0) (λ_=>no 0) (no 0) (λ_ _ _=>no 0) (no 0) (λ_ _=>no 0) (λ_ _=>no 0) (0:R) (λ_ _ _ _=>(0:R)) x
noncomputable def xD(id:Nat)(H:Heap)(x:V)(k:Nat->Nat->R):R:=V.rec (motive_1:=λ_=>R) (motive_2:=λ_=>R) (λ_ _=>no 0) (λ_=>no 0) (λl n=>k l n) (λ_ _=>no 0) (no 0) (λb o l _ _=>mh id H b o l λm=>k l m) (k 0 0) (λ_=>no 0) (no 0) (λ_ _ _=>no 0) (λ_=>no 0) (no 0) (λ_ _ _=>no 0) (no 0) (λ_ _=>no 0) (λ_ _=>no 0) (0:R) (λ_ _ _ _=>(0:R)) x
noncomputable def rH(id size:Nat)(n:Nat)(new:List V)(b o len cp sz:Nat)(H:Heap)(k:K):R:=bA id new (av (Yf len n) λneed=>aI (Yb need 1073741824) (Nat.rec (motive:=λ_=>R) (aI (YN sz size) (aI (YN o 0) (dv H b λbl=>tV id bl (λl=>aI (YN (ft l) (Ym len size)) (jJ l new λl'=>cZ id H b .dead λH=>cA H (.cells l') λb' H=>k (.slice b' 0 need 0 size) H) (no 0)) (λ_ _=>no 0)) (no 0)) (no 0)) (λq _=>aI (Yb need q) (dO id H b (Yf o (Ym len size)) new λH=>k (.slice b o need cp sz) H) (eH id H b o (Ym len size) λl=>bA id l (jJ l new λl'=>cA H (.cells l') λb' H=>k (.slice b' 0 need 0 size) H))) cp) (no 0))
noncomputable def Kw(size:Nat)(s x:Arg)(id:Nat)(e:Env)(H:Heap)(k:K):R:=aK s e λs=>aK x e λx=>cX id size H x λn new=>bD id s (λb o len cp sz=>Nat.rec (motive:=λ_=>R) (k s H) (λ_ _=>rH id size n new b o len cp sz H k) n) (Nat.rec (motive:=λ_=>R) (k s H) (λ_ _=>bA id new (aI (Yb n 1073741824) (cA H (.cells new) λb' H=>k (.slice b' 0 n 0 size) H) (no 0))) n)
noncomputable def LP(id:Nat)(n new:Nat)(b o len cp sz:Nat)(H:Heap)(k:K):R:=av (Yf len n) λneed=>aI (Yb need 1073741824) (Nat.rec (motive:=λ_=>R) (aI (YN sz 1) (aI (YN o 0) (dv H b λbl=>tV id bl (λ_=>no 0) (λln m=>aI (YN ln len) (av (Yf m (Yt new (Ym 8 len))) λm'=>cZ id H b .dead λH=>cA H (.bytes need m') λb' H=>k (.slice b' 0 need 0 1) H) (no 0))) (no 0)) (no 0)) (λq _=>aI (Yb need q) (no 0) (mh id H b o len λm=>av (Yf m (Yt new (Ym 8 len))) λm'=>cA H (.bytes need m') λb' H=>k (.slice b' 0 need 0 1) H)) cp) (no 0)
noncomputable def Kv(s x:Arg)(id:Nat)(e:Env)(H:Heap)(k:K):R:=aK s e λs=>aK x e λx=>xD id H x λn new=>bD id s (λb o len cp sz=>Nat.rec (motive:=λ_=>R) (k s H) (λ_ _=>LP id n new b o len cp sz H k) n) (Nat.rec (motive:=λ_=>R) (k s H) (λ_ _=>aI (Yb n 1073741824) (cA H (.bytes n new) λb' H=>k (.slice b' 0 n 0 1) H) (no 0)) n)
noncomputable def ags(u8:Bool)(size:Nat)(s x:Arg)(id:Nat)(ph:dm)(e:Env)(H:Heap)(k:K):R:=aI u8 (Kv s x id e H k) (Kw size s x id e H k)
noncomputable def Sm(id:Nat)(x:V)(k:Nat->R):R:=V.rec (motive_1:=λ_=>R) (motive_2:=λ_=>R) (λ_ _=>no 0) (λ_=>no 0) (λl _=>k l) (λ_ _=>no 0) (no 0) (λ_ _ l _ _=>k l) (k 0) (λ_=>no 0) (no 0) (λ_ _ _=>no 0) (λ_=>no 0) (no 0) (λ_ _ _=>no 0) (no 0) (λ_ _=>no 0) (λ_ _=>no 0) (0:R) (λ_ _ _ _=>(0:R)) x
noncomputable def Nk(a b:Nat)(k:Nat->R):R:=aI (Yb a b) (k a) (k b)
noncomputable def kU(id n:Nat)(H:Heap)(k:K):R:=aI (Yz n 9223372036854775808) (k (.int 3 n) H) (no 0)
noncomputable def Ro(size:Nat)(d s:Arg)(id:Nat)(ph:dm)(e:Env)(H:Heap)(k:K):R:=aK d e λd=>aK s e λs=>bD id d (λb o dl _ _=>Sm id s λsl=>Nk sl dl λn=>cX id size H s λ_ l=>takeN id l (Ym n size) λm=>Nat.rec (motive:=λ_=>R) (k (.int 3 0) H) (λ_ _=>dO id H b o m λH=>kU id n H k) n) (cX id size H s λ_ _=>k (.int 3 0) H)
noncomputable def Rv(x:Arg)(id:Nat)(ph:dm)(e:Env)(H:Heap)(k:K):R:=aK x e λx=>dU id x λn _=>kU id n H k
noncomputable def Rt(x:Arg)(id:Nat)(ph:dm)(e:Env)(H:Heap)(k:K):R:=aK x e λx=>bD id x (λ_ _ n _ _=>kU id n H k) (kU id 0 H k)
noncomputable def BO(es:List (V×V)):Nat:=List.rec (motive:=λ_=>Nat) 0 (λ_ _ ih=>WN ih) es
noncomputable def Ru(x:Arg)(id:Nat)(ph:dm)(e:Env)(H:Heap)(k:K):R:=aK x e λx=>qA id x (λb=>dv H b λbl=>rK id bl λes=>av (BO es) λn=>kU id n H k) (kU id 0 H k)
noncomputable def aah(x:Arg)(id:Nat)(ph:dm)(e:Env)(H:Heap)(k:K):R:=aK x e λx=>bD id x (λ_ _ _ cp _=>Nat.rec (motive:=λ_=>R) (no 0) (λq _=>aI (Yz q 9223372036854775808) (k (.int 3 q) H) (no 0)) cp) (k (.int 3 0) H)
noncomputable def eMm(kd o m:Nat)(mx:Bool)(x y:Arg)(id:Nat)(ph:dm)(e:Env)(H:Heap)(k:K):R:=aK x e λx=>cB id x λk1 a=>aK y e λy=>cB id y λk2 b=>aI (YN k1 kd) (aI (YN k2 kd) (aI (Yb (Yx (Yf a o) m) (Yx (Yf b o) m)) (aI mx (k (.int kd b) H) (k (.int kd a) H)) (aI mx (k (.int kd a) H) (k (.int kd b) H))) (no 0)) (no 0)
noncomputable def Fw(o m:Nat)(mx:Bool)(a b:Nat)(k:Nat->R):R:=aI (Yb (Yx (Yf a o) m) (Yx (Yf b o) m)) (aI mx (k b) (k a)) (aI mx (k a) (k b))
noncomputable def UR(kd o m:Nat)(mx:Bool)(x y z:Arg)(id:Nat)(ph:dm)(e:Env)(H:Heap)(k:K):R:=aK x e λx=>cB id x λk1 a=>aK y e λy=>cB id y λk2 b=>aK z e λz=>cB id z λk3 c=>aI (YN k1 kd) (aI (YN k2 kd) (aI (YN k3 kd) (Fw o m mx a b λr=>Fw o m mx r c λq=>k (.int kd q) H) (no 0)) (no 0)) (no 0)
noncomputable def IC(id:Nat)(c:Nat)(x y:V)(k:Bool->R):R:=Nat.rec (motive:=λ_=>R) (eK id x λa=>eK id y λb=>aI a (k b) (aI b (k false) (k true))) (λc' _=>Nat.rec (motive:=λ_=>R) (cB id x λk1 a=>cB id y λk2 b=>aI (YN k1 k2) (k (YN a b)) (no 0)) (λ_ _=>dU id x λl1 a=>dU id y λl2 b=>aI (YN l1 l2) (k (YN a b)) (k false)) c') c
noncomputable def Ar(l:List Nat):Nat:=List.rec (motive:=λ_=>Nat) 0 (λ_ _ ih=>WN ih) l
noncomputable def gj(id:Nat)(cls:List Nat):List V->List V->(Bool->R)->R:=List.rec (motive:=λ_=>List V->List V->(Bool->R)->R) (λ_ _ k=>k true) (λc _ ih l m k=>List.rec (motive:=λ_=>R) (no 0) (λa l' _=>List.rec (motive:=λ_=>R) (no 0) (λb m' _=>IC id c a b λr=>aI r (ih l' m' k) (k false)) m) l) cls
noncomputable def HY(cls:List Nat)(neg:Bool)(x y:Arg)(id:Nat)(ph:dm)(e:Env)(H:Heap)(k:K):R:=aK x e λx=>iQ id x λl=>aK y e λy=>iQ id y λm=>aI (YN (ft l) (Ar cls)) (aI (YN (ft m) (Ar cls)) (gj id cls l m λb=>aI b (aI neg (k (.bool false) H) (k (.bool true) H)) (k (.bool neg) H)) (no 0)) (no 0)
noncomputable def aR(o:ld):Nat->dm->Env->Heap->K->R:=ld.rec (motive:=λ_=>Nat->dm->Env->Heap->K->R) agt agu adK adJ adI Rl Rm Bv qM qN vu vv Kx MB aai Ec RB UP Rw Ia wK wL aan Rz aao wM aar aas aaq Rq Rr Rs aaj aam aal aak Rx RA Ry Rp Rn HZ ags Ro Rv Rt Ru aah eMm HY UR aat o
noncomputable def cj(d:Option Slot)(v:V)(e:Env)(k:Env->R):R:=Option.rec (motive:=λ_=>R) (k e) (λs=>Jm s v e k) d
noncomputable def GO(x:V)(want:Bool)(t f:R):R:=V.rec (motive_1:=λ_=>R) (motive_2:=λ_=>R) (λ_ _=>f) (λb=>Bool.rec (motive:=λ_=>R) (aI want f t) (aI want t f) b) (λ_ _=>f) (λ_ _=>f) (f) (λ_ _ _ _ _=>f) (f) (λ_=>f) (f) (λ_ _ _=>f) (λ_=>f) (f) (λ_ _ _=>f) (f) (λ_ _=>f) (λ_ _=>f) (0:R) (λ_ _ _ _=>(0:R)) x
noncomputable def uJ(g:Option (Slot×Bool))(e:Env)(t f:R):R:=Option.rec (motive:=λ_=>R) t (λp=>YJ2 (motive:=λ_=>R) (λs b=>jN s e λv=>GO v b t f) p) g
noncomputable def jj(ph:dm)(l:List CL):Env->Heap->(Env->Heap->R)->R:=List.rec (motive:=λ_=>Env->Heap->(Env->Heap->R)->R) (λe H k=>k e H) (λo _ ih e H k=>CL.rec (motive:=λ_=>R) (λid d g _ op=>uJ g e (aR op id ph e H λv H'=>cj d v e λe'=>ih e' H' k) (cj d (.cG []) e λe'=>ih e' H k)) o) l
noncomputable def cO(ph:dm)(l:List CL):Env->Heap->(Env->Heap->R)->R:=List.rec (motive:=λ_=>Env->Heap->(Env->Heap->R)->R) (λe H k=>k e H) (λo _ ih e H k=>CL.rec (motive:=λ_=>R) (λid d g cls op=>uJ g e (Nat.rec (motive:=λ_=>R) (aR op id ph e H λv H'=>cj d v e λe'=>ih e' H' k) (λ_ _=>Heap.rec (motive:=λ_=>R) (λn bF t=>aR op id ph e (.mk n n t) λv H'=>Heap.rec (motive:=λ_=>R) (λn' wlo' t'=>aI (Yb n wlo') (cj d v e λe'=>ih e' (.mk n' bF t') k) (no 0)) H') H) cls) (cj d (.cG []) e λe'=>ih e' H k)) o) l
abbrev KE:=Env->Heap->R
noncomputable def nA(id:Nat)(x:V)(k:Option Nat->R):R:=V.rec (motive_1:=λ_=>R) (motive_2:=λ_=>R) (λ_ _=>no 0) (λ_=>no 0) (λ_ _=>no 0) (λb _=>k (some b)) (no 0) (λb _ _ _ _=>k (some b)) (k none) (λ_=>no 0) (no 0) (λ_ _ _=>no 0) (λ_=>no 0) (no 0) (λ_ _ _=>no 0) (no 0) (λ_ _=>no 0) (λ_ _=>no 0) (0:R) (λ_ _ _ _=>(0:R)) x
noncomputable def dJ(id bf b:Nat)(l:List (Nat×Nat))(k:R):R:=List.rec (motive:=λ_=>R) k (λp _ ih=>YJ2 (motive:=λ_=>R) (λi' b'=>aI (Nat.testBit bf i') ih (aI (YN b b') (no 0) ih)) p) l
noncomputable def zR(id:Nat)(b:ep)(k:R):R:=tV id b (λl=>List.rec (motive:=λ_=>R) k (λv _ ih=>isKey id v ih) l) λ_ _=>no 0
noncomputable def bO(ph:dm)(n0:Nat)(l:List uK):Env->Heap->List (Nat×Nat)->List (Nat×Nat)->(Env->Heap->R)->R:=List.rec (motive:=λ_=>Env->Heap->List (Nat×Nat)->List (Nat×Nat)->(Env->Heap->R)->R) (λe H _ _ k=>k e H) (λo _ ih e H fl st k=>uK.rec (motive:=λ_=>R) (λid d g tag i bf ad op=>uJ g e (Nat.rec (motive:=λ_=>R) (aR op id ph e H λv H'=>cj d v e λe'=>ih e' H' fl st k) (λt1 _=>Nat.rec (motive:=λ_=>R) (Heap.rec (motive:=λ_=>R) (λn bF t=>aR op id ph e (.mk n n t) λv H'=>Heap.rec (motive:=λ_=>R) (λn' wlo' t'=>aI (Yb n wlo') (cj d v e λe'=>ih e' (.mk n' bF t') fl st k) (no 0)) H') H) (λt2 _=>aK ad e λa=>nA id a λob=>Nat.rec (motive:=λ_=>R) (Option.rec (motive:=λ_=>R) (no 0) (λb=>aI (Yz b n0) (dJ id bf b st (aR op id ph e H λv H'=>cj d v e λe'=>ih e' H ((i,b)::fl) st k)) (no 0)) ob) (λt3 _=>Nat.rec (motive:=λ_=>R) (Option.rec (motive:=λ_=>R) (aR op id ph e H λv H'=>cj d v e λe'=>ih e' H' fl st k) (λb=>dJ id bf b fl (aR op id ph e H λv H'=>cj d v e λe'=>ih e' H' fl ((i,b)::st) k)) ob) (λ_ _=>Heap.rec (motive:=λ_=>R) (λn bF t=>aR op id ph e (.mk n n t) λv H'=>Heap.rec (motive:=λ_=>R) (λn' wlo' t'=>aI (Yb n wlo') (zR id (HT.get t' n) (cj d v e λe'=>ih e' (.mk n' bF t') ((i,n)::fl) st k)) (no 0)) H') H) t3) t2) t1) tag) (cj d (.cG []) e λe'=>ih e' H fl st k)) o) l
noncomputable def Tl(x y:V)(k:R):R:=cB 0 x λk1 a=>cB 0 y λk2 b=>aI (YN k1 k2) (aI (YN a b) k (no 0)) (no 0)
noncomputable def qZ(l:List V):List V->R->R:=List.rec (motive:=λ_=>List V->R->R) (λm k=>List.rec (motive:=λ_=>R) k (λ_ _ _=>no 0) m) (λa _ ih m k=>List.rec (motive:=λ_=>R) (no 0) (λb m' _=>Tl a b (ih m' k)) m) l
noncomputable def uC(x y:ep)(k:R):R:=tV 0 x (λl=>tV 0 y (λm=>qZ l m k) λ_ _=>no 0) λ_ _=>no 0
noncomputable def py(b:Nat)(x:ep)(hs:List Heap)(k:R):R:=List.rec (motive:=λ_=>R) k (λG _ ih=>dv G b λy=>uC y x ih) hs
noncomputable def qy(H H':Heap)(bs:List Nat)(k:R):R:=List.rec (motive:=λ_=>R) k (λb _ ih=>dv H b λx=>dv H' b λy=>uC y x ih) bs
noncomputable def dn(ph:dm)(n0:Nat)(l:List uK):Env->Heap->List Heap->List Nat->(Env->Heap->R)->R:=List.rec (motive:=λ_=>Env->Heap->List Heap->List Nat->(Env->Heap->R)->R) (λe H _ _ k=>k e H) (λo _ ih e H hs bs k=>uK.rec (motive:=λ_=>R) (λid d g tag _ _ ad op=>uJ g e (aI (YN tag 5) (aK ad e λa=>nA id a λob=>Option.rec (motive:=λ_=>R) (no 0) (λb=>aI (Yz b n0) (dv H b λx=>py b x hs (aR op id ph e H λv _=>cj d v e λe'=>ih e' H hs (b::bs) k)) (no 0)) ob) (aI (YN tag 6) (aR op id ph e H λv H'=>qy H H' bs (cj d v e λe'=>ih e' H' (H::hs) bs k)) (aR op id ph e H λv H'=>cj d v e λe'=>ih e' H' hs bs k))) (cj d (.cG []) e λe'=>ih e' H hs bs k)) o) l
noncomputable def gO(c:au):Nat->dm->Env->Heap->KE->(Nat->KE)->R:=au.rec (motive:=λ_=>Nat->dm->Env->Heap->KE->(Nat->KE)->R) (λ_ _ _ _ _ _=>no 8) (λ_ _ e H kn _=>kn e H) (λops _ ph e H kn _=>jj ph ops e H kn) (λops _ ph e H kn _=>cO ph ops e H kn) (λops _ ph e H kn _=>Heap.rec (motive:=λ_=>R) (λn _ _=>bO ph n ops e H [] [] kn) H) (λops _ ph e H kn _=>Heap.rec (motive:=λ_=>R) (λn _ _=>dn ph n ops e H [] [] kn) H) (λ_ _ iha ihb fuel ph e H kn kx=>iha fuel ph e H (λe H=>ihb fuel ph e H kn kx) kx) (λc _ _ iha ihb fuel ph e H kn kx=>aK c e λv=>eK 0 v λb=>aI b (iha fuel ph e H kn kx) (ihb fuel ph e H kn kx)) (λid _ iha fuel ph e H kn kx=>iha fuel ph e H kn λn e H=>aI (YN n (WN id)) (kn e H) (kx n e H)) (λ_ iha fuel ph e H _ kx=>Nat.rec (motive:=λ_=>Env->Heap->R) (λ_ _=>no 3) (λ_ ih e H=>iha fuel ph e H ih kx) fuel e H) (λid _ _ e H _ kx=>kx (WN id) e H) (λ_ _ e H _ kx=>kx 0 e H) (λg ps assign body _ ph e H kn kx=>aK g e λg=>ym 0 g λf caps=>Nat.rec (motive:=λ_=>R) (cA H .mark λ_ H=>cA H (.loop 0 0 e ps assign body) λb H=>ph (.func f caps) [.sJ b] H λ_ H=>dv H b λbl=>eS bl λst j e' ps' as' bo'=>Nat.rec (motive:=λ_=>R) (cZ 0 H b (.loop 3 j e' ps' as' bo') λH=>Nat.rec (motive:=λ_=>R) (kn e H) (λm _=>kx m e H) j) (λs _=>Nat.rec (motive:=λ_=>R) (no 10) (λ_ _=>cZ 0 H b (.loop 3 j e' ps' as' bo') λH=>Nat.rec (motive:=λ_=>R) (kn e H) (λm _=>kx m e H) j) s) st) (λ_ _=>no 14) (Yx f 2)) (λg ps assign body _ ph e H kn kx=>aK g e λg=>ym 0 g λf caps=>Nat.rec (motive:=λ_=>R) (cA H (.loop 0 0 e ps assign body) λb H=>ph (.func f caps) [.sJ b] H λ_ H=>dv H b λbl=>eS bl λst j e' ps' as' bo'=>Nat.rec (motive:=λ_=>R) (cZ 0 H b (.loop 3 j e' ps' as' bo') λH=>Nat.rec (motive:=λ_=>R) (kn e H) (λm _=>kx m e H) j) (λs _=>Nat.rec (motive:=λ_=>R) (no 10) (λ_ _=>cZ 0 H b (.loop 3 j e' ps' as' bo') λH=>Nat.rec (motive:=λ_=>R) (kn e H) (λm _=>kx m e H) j) s) st) (λ_ _=>no 14) (Yx f 2)) c
inductive df where|nat(g:List V->Heap->K->R)|code(ps:List Slot)(res:List RV)(c:au)
noncomputable def adN(r:RV)(e:Env)(H:Heap)(k:V->R):R:=RV.rec (motive:=λ_=>R) (λs=>jN s e k) (λs=>jN s e λv=>ec 0 v λb o=>nE 0 H b o k) (λs n=>jN s e λv=>ec 0 v λb o=>eH 0 H b o n λl=>k (.agg l)) r
noncomputable def xd(l:List RV)(e:Env)(H:Heap):(List V->R)->R:=List.rec (motive:=λ_=>(List V->R)->R) (λk=>k []) (λr _ ih k=>adN r e H λv=>ih λq=>k (v::q)) l
noncomputable def Jg(l:List V)(k:V->R):R:=List.rec (motive:=λ_=>R) (k (.cG [])) (λv r _=>List.rec (motive:=λ_=>R) (k v) (λ_ _ _=>k (.cG l)) r) l
noncomputable def fZ(ps:List Slot):List V->Env->(Env->R)->R:=List.rec (motive:=λ_=>List V->Env->(Env->R)->R) (λl e k=>List.rec (motive:=λ_=>R) (k e) (λ_ _ _=>no 4) l) (λs _ ih l e k=>List.rec (motive:=λ_=>R) (no 5) (λv r _=>Jm s v e λe'=>ih r e' k) l) ps
noncomputable def u0:V:=.cG []
noncomputable def u1:N8 V:=.mk u0 u0 u0 u0 u0 u0 u0 u0
noncomputable def u2:N8 (N8 V):=.mk u1 u1 u1 u1 u1 u1 u1 u1
noncomputable def Eg:Env:=.mk u2 u2 u2 u2 u2 u2 u2 u2
noncomputable def U0(f:df)(fuel:Nat)(ph:dm)(args:List V)(H:Heap)(k:K):R:=df.rec (motive:=λ_=>R) (λg=>g args H k) (λps res c=>fZ ps args Eg λe=>gO c fuel ph e H (λe H=>xd res e H λl=>Jg l λv=>k v H) λn e H=>Nat.rec (motive:=λ_=>R) (xd res e H λl=>Jg l λv=>k v H) (λ_ _=>no 6) n) f
noncomputable def Y6(cp:RC->au)(fuel:Nat)(ph:dm)(b:Nat)(args:List V)(H:Heap)(k:K):R:=dv H b λbl=>eS bl λst j e ps asL bo=>Nat.rec (motive:=λ_=>R) (fZ ps args e λe1=>gO (cp asL) fuel ph e1 H (λe2 H=>dv H b λbl=>eS bl λst1 j1 e1 ps1 as1 bo1=>Nat.rec (motive:=λ_=>R) (cZ 0 H b (.loop 1 j1 e1 ps1 as1 bo1) λH=>gO (cp bo) fuel ph e2 H (λ_ H=>dv H b λbl=>eS bl λ_ _ e' ps' as' bo'=>cZ 0 H b (.loop 0 0 e' ps' as' bo') λH=>k (.bool true) H) λn _ H=>dv H b λbl=>eS bl λ_ _ e' ps' as' bo'=>cZ 0 H b (.loop 2 (WN n) e' ps' as' bo') λH=>k (.bool false) H) (λ_ _=>no 13) st1) (λ_ _ _=>no 11)) (λ_ _=>no 12) st
noncomputable def Ij(t:Nat->Option df)(fuel:Nat)(ph:dm)(f:Nat)(args:List V)(H:Heap)(k:K):R:=av f λf=>Option.rec (motive:=λ_=>R) (no (100+f)) (λfn=>U0 fn fuel ph args H k) (t f)
noncomputable def aU(cp:RC->au)(t:Nat->Option df)(fuel:Nat)(depth:Nat):dm:=Nat.rec (motive:=λ_=>dm) (λ_ _ _ _=>no 7) (λ_ ih x args H k=>V.rec (motive_1:=λ_=>R) (motive_2:=λ_=>R) (λ_ _=>no 0) (λ_=>no 0) (λ_ _=>no 0) (λ_ _=>no 0) (no 0) (λ_ _ _ _ _=>no 0) (no 0) (λ_=>no 0) (no 0) (λf caps _=>Nat.rec (motive:=λ_=>R) (jJ args caps λargs=>Ij t fuel ih (Wm f 2) args H k) (λ_ _=>jJ caps args λargs=>Ij t fuel ih (Wm f 2) args H k) (Yx f 2)) (λb=>Y6 cp fuel ih b args H k) (no 0) (λ_ _ _=>no 0) (no 0) (λ_ _=>no 0) (λ_ _=>no 0) (0:R) (λ_ _ _ _=>(0:R)) x) depth
noncomputable def H0:Heap:=.mk 0 0 .e
end Go.Ev
end
section
namespace Go.Ev
section
variable(P:Program)
def gi(fid:Nat)(fn:Func):Option df:=match fn.body with|some c=>if fn.ntmps<=512&&fn.params.size+fn.nfree<=fn.ntmps then match lj P fn.ntmps fn.results.toList with|some r=>some (.code ((WZ (fn.params.size+fn.nfree)).map bh) r (iu P fn.ntmps fid false c))|none=>none else none|none=>none
end
end Go.Ev
end
section
namespace Go.Ev
noncomputable def KF(sl sn:Nat)(l:List V):(Nat->Nat->R)->R:=List.rec (motive:=λ_=>(Nat->Nat->R)->R) (λk=>k 0 0) (λv r ih k=>dU 0 v λl n=>List.rec (motive:=λ_=>R) (k l n) (λ_ _ _=>ih λrl rn=>av (Yf l (Yf sl rl)) λtl=>av (Yf n (Yt (Yf sn (Yt rn (Ym 8 sl))) (Ym 8 l))) λtn=>k tl tn) r) l
noncomputable def pM(c b:Nat)(k:Nat->R):R:=av (YQ0 (WC c 4) (YB3 (WC 9937593612760466100516450665319420528403982636753068485404800763335476026940182181175496972418787619281442302519629725716261212251300561153615832085954560 (Ym 32 (YB3 (YQ0 c b) 15))) 4294967295)) k
noncomputable def vt(l:Nat):Nat->Nat->(Nat->R)->R:=Nat.rec (motive:=λ_=>Nat->Nat->(Nat->R)->R) (λ_ c k=>k c) (λ_ ih n c k=>av (Yx n 256) λb=>av (Wm n 256) λn'=>pM c b λc=>pM c (WC b 4) λc=>ih n' c k) l
end Go.Ev
end
section
namespace Go.Ev
def q8{α:Type}(i:I8)(t:N8 α)(x:α):N8 α:=match t with|.mk a0 a1 a2 a3 a4 a5 a6 a7=>match i with|.i0=>.mk x a1 a2 a3 a4 a5 a6 a7|.i1=>.mk a0 x a2 a3 a4 a5 a6 a7|.i2=>.mk a0 a1 x a3 a4 a5 a6 a7|.i3=>.mk a0 a1 a2 x a4 a5 a6 a7|.i4=>.mk a0 a1 a2 a3 x a5 a6 a7|.i5=>.mk a0 a1 a2 a3 a4 x a6 a7|.i6=>.mk a0 a1 a2 a3 a4 a5 x a7|.i7=>.mk a0 a1 a2 a3 a4 a5 a6 x
def kV(s:Slot)(v:V)(e:Env):Env:=match s with|.mk a b c=>q8 a e (q8 b (p8 a e) (q8 c (p8 b (p8 a e)) v))
theorem RZ{α}(i)(t)(k:α->R):g8 i t k=k (p8 i t):=by cases i<;>rfl
theorem TQ{α}(i)(t)(f)(k:N8 α->R):u8 i t f k=f (p8 i t) λx=>k (q8 i t x):=by cases i<;>rfl
theorem KW{α}(i j)(t)(x:α):p8 i (q8 j t x)=if i=j then x else p8 i t:=by cases i<;>cases j<;>rfl
theorem dX(s)(e)(k):jN s e k=k (af s e):=by cases s with|mk a b c=>show g8 a e (λt=>g8 b t λu=>g8 c u k)=_;rw[RZ,RZ,RZ];rfl
theorem sy(s)(v)(e)(k):Jm s v e k=k (kV s v e):=by cases s with|mk a b c=>show u8 a e (λt k1=>u8 b t (λu k2=>u8 c u (λ_ k3=>k3 v) k2) k1) k=_;rw[TQ,TQ,TQ];rfl
theorem eZ(s s')(v)(e):af s (kV s' v e)=if s=s' then v else af s e:=by cases s with|mk a b c=>cases s' with|mk a' b' c'=>
   simp only[af,kV,KW];by_cases h1:a=a'
   .subst h1;by_cases h2:b=b'
    .subst h2;by_cases h3:c=c';.simp[KW]
     .simp[h3,KW]
    .simp[h2,KW]
   simp_all
theorem HQ{m n}(hm:m<8)(hn:n<8)(h:d8 m=d8 n):m=n:=by rcases(by omega:m=0\/m=1\/m=2\/m=3\/m=4\/m=5\/m=6\/m=7)with rfl|rfl|rfl|rfl|rfl|rfl|rfl|rfl<;>rcases(by omega:n=0\/n=1\/n=2\/n=3\/n=4\/n=5\/n=6\/n=7)with rfl|rfl|rfl|rfl|rfl|rfl|rfl|rfl<;>first|rfl|cases h
theorem fH{m n}(hm:m<512)(hn:n<512)(h:bh m=bh n):m=n:=by injection h with h1 h2 h3;have h1:=HQ (by omega) (by omega) h1;have h2:=HQ (by omega) (by omega) h2;have h3:=HQ (by omega) (by omega) h3;omega
theorem TR.put{mu:M}{nt:Nat}{e:Env}{tmps:Array Value}(h:TR mu nt e tmps){d:Nat}{v:V}{c:Value}(hd:d<nt)(hv:VR mu v c):TR mu nt (kV (bh d) v e) (tmps.setIfInBounds d c):=by
 refine⟨by simpa using h.size,h.le,λt u ht=>?_,λt h1 h2=>by have hl:=h.le;rw[eZ,if_neg λe=>by have:=fH (by omega) (by omega) e;omega];exact h.rest t h1 h2⟩;rw[eZ];have hs:=h.size;have hl:=h.le;by_cases htd:t=d;.subst htd;rw[if_pos rfl];rw[Array.getElem?_setIfInBounds_self_of_lt (by omega)]at ht;cases ht;exact hv
 .rw[WV (Ne.symm htd)]at ht;have hlt:t<tmps.size:=by
   rcases Ye t tmps.size with h|h;.exact h
   .simp[Array.getElem?_eq_none h]at ht
  rw[if_neg λe=>htd (fH (by omega) (by omega) e)];exact h.get t u ht
theorem ax(n)(k):av n k=k n:=by cases n<;>rfl
theorem adS(t f):aI true t f=t:=rfl
theorem abL(t f):aI false t f=f:=rfl
theorem aV{c}{t}{n}(h:aI c t (no n)=1):c=true/\t=1:=by
 cases c;.exact(aw h).elim
 .exact⟨rfl,h⟩
theorem bT{c}{t f}(h:aI c t f=1):(c=true/\t=1)\/(c=false/\f=1):=by
 cases c;.exact YD ⟨rfl,h⟩
 .exact YH ⟨rfl,h⟩
theorem cF{a b:Nat}(h:YN a b=true):a=b:=Nat.eq_of_beq_eq_true h
theorem cw{a b:Nat}(h:Yb a b=true):a<=b:=Qy h
theorem eM{a b}(h:Yz a b=true):a<b:=Qy h
theorem dG{id}{x}{k}(h:cB id x k=1):(∃kd n,x=.int kd n/\k kd n=1):=by cases x<;>first|exact(aw h).elim|exact⟨_,_,rfl,h⟩
theorem mD{id}{x}{k}(h:eK id x k=1):(∃b,x=.bool b/\k b=1):=by cases x<;>first|exact(aw h).elim|exact⟨_,rfl,h⟩
theorem ef{id}{x}{k}(h:dU id x k=1):(∃l n,x=.str l n/\k l n=1):=by cases x<;>first|exact(aw h).elim|exact⟨_,_,rfl,h⟩
theorem fP{id}{x}{k}(h:ec id x k=1):(∃b o,x=.ptr b o/\k b o=1):=by cases x<;>first|exact(aw h).elim|exact⟨_,_,rfl,h⟩
theorem Ok{id}{x}{k}(h:lN id x k=1):(∃b o l c s,x=.slice b o l c s/\k b o l c s=1):=by cases x<;>first|exact(aw h).elim|exact⟨_,_,_,_,_,rfl,h⟩
theorem fI{id}{x}{k}{z}(h:bD id x k z=1):(∃b o l c s,x=.slice b o l c s/\k b o l c s=1)\/(x=.aD/\z=1):=by cases x<;>first|exact(aw h).elim|exact YH ⟨_,_,_,_,_,rfl,h⟩|exact YD ⟨rfl,h⟩
theorem Lc{id}{x}{k}(h:Gz id x k=1):(∃b,x=.map b/\k b=1):=by cases x<;>first|exact(aw h).elim|exact⟨_,rfl,h⟩
theorem GA{id}{x}{k}{z}(h:qA id x k z=1):(∃b,x=.map b/\k b=1)\/(x=.uU/\z=1):=by cases x<;>first|exact(aw h).elim|exact YH ⟨_,rfl,h⟩|exact YD ⟨rfl,h⟩
theorem Gy{id}{x}{k}(h:ym id x k=1):(∃f l,x=.func f l/\k f l=1):=by cases x<;>first|exact(aw h).elim|exact⟨_,_,rfl,h⟩
theorem qe{id}{x}{k}(h:iQ id x k=1):(∃l,x=.agg l/\k l=1):=by cases x<;>first|exact(aw h).elim|exact⟨_,rfl,h⟩
theorem abu{id t}{x}{k}(h:vIf id t x k=1):∃v,x=.iface t v/\k v=1:=by
 cases x<;>first|exact(aw h).elim|skip
 have h':=h;rcases bT h' with⟨h1,h2⟩|⟨_,h2⟩;.simp_all
 .exact(aw h2).elim
theorem Xj{id}{x}{k}(h:zy id x k=1):(∃l,x=.cG l/\k l=1):=by cases x<;>first|exact(aw h).elim|exact⟨_,rfl,h⟩
theorem tI{id}:∀{l}{i}{k},nth id l i k=1->∃v,l[i]?=some v/\k v=1|[],_,_,h=>(aw h).elim|v::l,0,_,h=>⟨v,rfl,h⟩|_::l,i+1,k,h=>by have h':nth id l i k=1:=h;obtain⟨v,h1,h2⟩:=tI h';simp_all
theorem kP{id}:∀{l}{n}{k},takeN id l n k=1->n<=l.length/\k (l.take n)=1|[],0,_,h=>⟨YC _,h⟩|[],_+1,_,h=>(aw h).elim|v::l,0,_,h=>⟨Ya _,h⟩|v::l,n+1,k,h=>by have h':takeN id l n (λr=>k (v::r))=1:=h;obtain⟨h1,h2⟩:=kP h';simp_all
theorem ma{id}:∀{l}{n}{k},fC id l n k=1->n<=l.length/\k (l.drop n)=1|[],0,_,h=>⟨YC _,h⟩|[],_+1,_,h=>(aw h).elim|v::l,0,_,h=>⟨Ya _,h⟩|v::l,n+1,k,h=>by have h':fC id l n k=1:=h;obtain⟨h1,h2⟩:=ma h';simp_all
theorem fk:∀(l m)(k),jJ l m k=k (l++m)|[],_,_=>rfl|v::l,m,k=>by show jJ l m (λr=>k (v::r))=_;rw[fk];rfl
theorem B6{id}:∀{m l}{k},over id m l k=1->m.length<=l.length/\k (m++l.drop m.length)=1|[],l,k,h=>⟨Ya _,by have h':k l=1:=h;simp_all⟩|x::m,[],_,h=>(aw h).elim|x::m,y::l,k,h=>by have h':over id m l (λq=>k (x::q))=1:=h;obtain⟨h1,h2⟩:=B6 h';simp_all
theorem x9{id}{m}:∀{l}{i}{k},setAt id m l i k=1->i+m.length<=l.length/\k (l.take i++(m++l.drop (i+m.length)))=1|[],0,k,h=>by have h':over id m [] k=1:=h;obtain⟨h1,h2⟩:=B6 h';simp_all|[],_+1,_,h=>(aw h).elim|v::l,0,k,h=>by have h':over id m (v::l) k=1:=h;obtain⟨h1,h2⟩:=B6 h';simp_all|v::l,i+1,k,h=>by have h':setAt id m l i (λr=>k (v::r))=1:=h;obtain⟨h1,h2⟩:=x9 h';rw[show i+1+m.length=(i+m.length)+1by omega];simp_all
theorem jO:∀l:List V,ft l=l.length|[]=>rfl|_::l=>by show WN (ft l)=_;rw[jO l];rfl
theorem Ci(m):∀(n)(k),VU m n k=k (ic n m)|0,_=>rfl|n+1,k=>by show VU m n (λr=>jJ m r k)=_;rw[Ci m n,fk];rfl
theorem xg{id}{x}{k}(h:dP id x k=1):x.one=true/\k=1:=by cases x<;>first|exact(aw h).elim|exact⟨rfl,h⟩
theorem eX{id}:∀{l}{k},bA id l k=1->(∀v∈l,v.one=true)/\k=1|[],_,h=>⟨λ_ hv=>absurd hv (by simp),h⟩|v::l,k,h=>by have h':dP id v (bA id l k)=1:=h;obtain⟨h1,h2⟩:=xg h';obtain⟨h3,h4⟩:=eX h2;simp_all
theorem Og{id}{x}{k}(h:dK id x k=1):(∃l,x=.agg l/\k l=1)\/(x.one=true/\k [x]=1):=by cases x<;>first|exact(aw h).elim|exact YH ⟨_,rfl,h⟩|exact YD ⟨rfl,h⟩
theorem aL:∀(l n),(aC l n).length=l|0,_=>rfl|l+1,n=>by simp[aC,aL l]
theorem rb:∀(l n i),i<l->(aC l n)[i]?=some (UInt8.ofNat (n/256^i%256))|0,_,_,h=>absurd h (by omega)|l+1,n,0,_=>by simp[aC]|l+1,n,i+1,h=>by simp only[aC,QW];rw[rb l (n/256) i (by omega),YK3,Qb,Wq]
theorem toNat_byte(x):(UInt8.ofNat (x%256)).toNat=x%256:=by simp
theorem nu:∀(l n m),n%256^l=m%256^l->aC l n=aC l m
 |0,_,_,_=>rfl|l+1,n,m,h=>by
  rw[Qb]at h;have h1:=by have:=congrArg (·%256) h;simpa[Nat.mod_mul_left_mod]using this
  have h2:n/256%256^l=m/256%256^l:=by rw[Wq]at h;rw[<-YH1,<-YH1,h]
  simp only[aC,h1,nu l _ _ h2]
theorem fi:∀(a b n m),n<256^a->aC (a+b) (n+256^a*m)=aC a n++aC b m
 |0,b,n,m,h=>by
  have:n=0:=by omega
  subst this;simp[aC]|a+1,b,n,m,h=>by
  rw[Qb]at h⊢;have e1:(n+256^a*256*m)%256=n%256:=by rw[YP0,Nat.add_mul_mod_self_right]
  have e2:(n+256^a*256*m)/256=n/256+256^a*m:=by rw[YP0,Nat.add_mul_div_right _ _ (by simp)]
  rw[show a+1+b=(a+b)+1by omega];simp only[aC,e1,e2,YK];rw[fi a b (n/256) m (YG0 (by omega))]
theorem jo:∀(i l n),i<=l->(aC l n).drop i=aC (l-i) (n/256^i)|0,l,n,_=>by simp|i+1,0,n,h=>absurd h (by omega)|i+1,l+1,n,h=>by simp only[aC,List.drop_succ_cons];rw[jo i l (n/256) (by omega),YK3,Qb,Wq 256,show l+1-(i+1)=l-i by omega]
theorem jq:∀(i l n),i<=l->(aC l n).take i=aC i n|0,l,n,_=>by rfl|i+1,0,n,h=>absurd h (by omega)|i+1,l+1,n,h=>by simp[aC,jq i l (n/256) (by omega)]
theorem FV:∀l:Nat,aC l 0=YZ l 0|0=>rfl|l+1=>by simp[aC,FV l,List.replicate_succ]
theorem iJ:∀l:List UInt8,enc l<256^l.length|[]=>by simp[enc]|x::l=>by have:=iJ l;have hx:=x.toNat_lt;simp only[enc,YG,Qb];omega
theorem fF:∀l:List UInt8,aC l.length (enc l)=l|[]=>rfl|x::l=>by have hx:=x.toNat_lt;simp only[enc,YG,aC];rw[show(x.toNat+256*enc l)%256=x.toNat by omega,show(x.toNat+256*enc l)/256=enc l by omega,fF l];simp
theorem mQ:∀(l n),n<256^l->enc (aC l n)=n|0,n,h=>by simp at h;simp[aC,enc,h]|l+1,n,h=>by simp only[aC,enc,toNat_byte];rw[mQ l (n/256) (YG0 (by omega))];omega
theorem rf{l m n}(hm:m<256^l)(hn:n<256^l)(h:aC l m=aC l n):m=n:=by rw[<-mQ l m hm,h,mQ l n hn]
def eo(x:UInt8):V:=.int 4 x.toNat
theorem po{id}:∀{l}{k},iw id l k=1->∃n,k l.length n=1/\(∀v∈l,∃x,v=.int 4 x)/\((∀v∈l,∀x,v=.int 4 x->x<256)->l=(aC l.length n).map eo/\n<256^l.length)
 |[],k,h=>⟨0,h,λ_ hv=>absurd hv (by simp),λ_=>⟨rfl,by simp⟩⟩|v::l,k,h=>by
  have h':cB id v (λkd x=>aI (YN kd 4) (iw id l λlen n=>av (Yf x (Ym 256 n)) λn'=>av (WN len) λlen'=>k len' n') (no _))=1:=h;obtain⟨kd,x,rfl,h1⟩:=dG h';obtain⟨h2,h3⟩:=aV h1;have:=cF h2;subst this;obtain⟨n,h4,h40,h5⟩:=po h3;rw[ax,ax]at h4;refine⟨_,h4,λv hv=>(YS.1 hv).elim (λe=>⟨_,e⟩) (h40 v),λha=>?_⟩;obtain⟨h6,h7⟩:=h5 λv hv=>ha v (YI _ hv);have hlt:=ha _ (YM ..) _ rfl;simp only[YG,aC,Qb];have e1:(x.add (Ym 256 n))%256=x:=by show(x+256*n)%256=x;omega
  have e2:(x.add (Ym 256 n))/256=n:=by show(x+256*n)/256=n;omega
  rw[e1,e2];refine⟨?_,by omega⟩;simp only[YO,eo];rw[<-h6];simp[WE hlt]
theorem iP:∀(len n)(k),qd len n k=k ((aC len n).map eo)|0,_,_=>rfl|len+1,n,k=>by show av (Yx n 256) (λx=>av (Wm n 256) λn'=>qd len n' λr=>k (.int 4 x::r))=_;rw[ax,ax,iP];simp only[aC,YO,eo,toNat_byte];rfl
end Go.Ev
end
section
namespace Go.Ev
open Go.RowKit
theorem aX(H)(b)(k):dv H b k=k (H.get b):=by rfl
theorem mL{id}{bl}{kc}{kb}(h:tV id bl kc kb=1):(∃l,bl=.cells l/\kc l=1)\/∃len n,bl=.bytes len n/\kb len n=1:=by cases bl<;>first|exact(aw h).elim|exact YH ⟨_,rfl,h⟩|exact YD ⟨_,_,rfl,h⟩
theorem vj{id}{bl}{k}(h:rK id bl k=1):∃es,bl=.map es/\k es=1:=by cases bl<;>first|exact(aw h).elim|exact⟨_,rfl,h⟩
theorem lX{bl}{k}(h:eS bl k=1):∃st j e ps asL bo,bl=.loop st j e ps asL bo/\k st j e ps asL bo=1:=by cases bl<;>first|exact(aw h).elim|exact⟨_,_,_,_,_,_,rfl,h⟩
structure OH(H:Heap)(b:Nat)(x:ep)(H':Heap):Prop where
 lt:b<H.n
 n:H'.n=H.n
 bF:H'.bF<=H.bF
 wb:H'.bF<=b
 get:H'.get b=x
 vG:∀j,j≠b->H'.get j=H.get j
theorem hU{id}{H}{b}{x}{k}(h:cZ id H b x k=1):∃H',k H'=1/\OH H b x H':=by cases H with|mk n bF t=>
  have h':=h;obtain⟨h1,h2⟩:=aV h';obtain⟨t',h3,h4,h5⟩:=HT.Jn _ _ _ h2;rcases bT h3 with⟨h6,h7⟩|⟨h6,h7⟩;.exact⟨_,h7,eM h1,rfl,YC _,cw h6,h4,h5⟩
  .have:b<bF:=by
    rcases Ye b bF with h|h;.omega
    .rw[WU h]at h6;cases h6
   exact⟨_,h7,eM h1,rfl,Qc this,YC _,h4,h5⟩
structure nS(H:Heap)(x:ep)(H':Heap):Prop where
 n:H'.n=H.n+1bF:H'.bF=H.bF
 get:H'.get H.n=x
 vG:∀j,j≠H.n->H'.get j=H.get j
theorem dD{H}{x}{k}(h:cA H x k=1):∃H',k H.n H'=1/\nS H x H':=by cases H with|mk n bF t=>have h':=h;obtain⟨t',h3,h4,h5⟩:=HT.Jn _ _ _ h';exact⟨_,h3,rfl,rfl,h4,h5⟩
def rowOf:ep->Option (List V)|.cells l=>some l|.bytes len n=>some ((aC len n).map eo)|_=>none
theorem abJ(x):(eo x).one=true:=rfl
theorem toI_u8(x)(h:x<256):toI .u8 x=x:=by show IntKind.u8.wrap (x:Int)=x;simp[IntKind.wrap,IntKind.bits,IntKind.signed];omega
theorem vh(mu)(x):VR mu (eo x) (.int .u8 x.toNat):=by
 have h:=x.toNat_lt;refine⟨?_,?_,by omega⟩;.show Value.int .u8 _=Value.int .u8 (toI .u8 _);rw[toI_u8 _ (by omega)]
 .show _<2^IntKind.u8.bits;simp[IntKind.bits];omega
theorem gG{bl}{row}(h:rowOf bl=some row):bl.alive/\bl≠.mark:=by cases bl<;>simp[rowOf]at h<;>exact⟨trivial,by simp⟩
theorem VX{P}{mu}{bl}{row}{o}(h:rowOf bl=some row)(hb:BR P mu bl o):∃c e fr,o=.cells c e fr/\jt mu row c fr:=by cases bl with|cells l=>simp only[rowOf,Option.some.injEq]at h;subst h;obtain⟨c,e,fr,h1,h2,_⟩:=hb;exact⟨c,e,fr,h1,h2⟩|bytes len n=>simp only[rowOf,Option.some.injEq]at h;subst h;obtain⟨c,e,fr,h1,⟨_,h2⟩,h3⟩:=hb;refine⟨c,e,fr,h1,λi v hi=>?_,h3⟩;simp only[Ys,Yg]at hi;obtain⟨x,hx,rfl⟩:=hi;exact⟨rfl,_,h2 i x hx,vh mu x⟩|_=>simp[rowOf]at h
section
variable{P:Program}{base:Nat}{w0 w w':World}{rho:Nat->Option Nat}{H H':Heap}
theorem PR.row(h:PR P base w0 rho H w){b c:Nat}{row:List V}(hr:rho b=some c)(hrow:rowOf (H.get b)=some row):∃cs e fr,w.heap[c]?=some (.cells cs e fr)/\jt (mu rho H w) row cs fr:=by obtain⟨o,h1,h2⟩:=h.cV b c hr;obtain⟨cs,e,fr,rfl,h3⟩:=VX hrow h2;exact⟨cs,e,fr,h1,h3⟩
theorem PR.aeF(h:PR P base w0 rho H w){b c:Nat}{l:List V}(hr:rho b=some c)(hb:H.get b=.cells l){cs:Array Value}{e:TypeId}{fr:Nat×Nat}(hw:w.heap[c]?=some (.cells cs e fr)):¬(fr.1<=cs.size/\cs.size<fr.2):=by obtain⟨o,h1,h2⟩:=h.cV b c hr;rw[hb]at h2;obtain⟨c',e',fr',rfl,_,h3⟩:=h2;rw[hw]at h1;cases h1;exact h3
theorem PR.lM(h:PR P base w0 rho H w){b c:Nat}{row:List V}(hm:(mu rho H w).b b c)(hrow:rowOf (H.get b)=some row):rho b=some c:=hm.2 (gG hrow).1
theorem tJ{v}{c}{m}(h:VR m v c)(ho:v.one=true):c.oneCell'=true:=by obtain⟨h1,h2⟩:=h.one ho;cases c<;>first|rfl|rfl|simp_all
theorem PR.cell(h:PR P base w0 rho H w){b c i:Nat}{row:List V}{v:V}(hr:rho b=some c)(hrow:rowOf (H.get b)=some row)(hi:row[i]?=some v):∃cv,w.cell? ⟨c,i,none⟩=some cv/\VR (mu rho H w) v cv/\v.one=true:=by obtain⟨cs,e,fr,h1,h2,h3⟩:=h.row hr hrow;obtain⟨h4,cv,h5,h6⟩:=h2 i v hi;exact⟨cv,by simp[World.cell?,h1,h5],h6,h4⟩
theorem jt.le{mu:M}{row:List V}{cs:Array Value}{fr:Nat×Nat}(h:jt mu row cs fr):row.length<=cs.size:=by
 rcases Ye cs.size row.length with hlt|hge;.obtain⟨_,cv,h2,_⟩:=h.1 cs.size _ (YA hlt);simp at h2
 .exact hge
theorem jt.vrs{mu:M}{row:List V}{cs:Array Value}{fr:Nat×Nat}(h:jt mu row cs fr){o n:Nat}(hn:o+n<=row.length):bZ mu ((row.drop o).take n) ((cs.toList.drop o).take n):=by
 have hle:=h.le;refine bZ.pn (by simp;omega) λi v c h1 h2=>?_;rw[Yy]at h1 h2;split at h1;.rename_i hi;rw[if_pos hi]at h2;rw[WG]at h1 h2;obtain⟨_,cv,h3,h4⟩:=h.1 _ _ h1;rw[Yr]at h2;rw[h3]at h2;cases h2;exact h4
 .cases h1
theorem PR.cells(h:PR P base w0 rho H w){b c o n:Nat}{row:List V}(hr:rho b=some c)(hrow:rowOf (H.get b)=some row)(hn:o+n<=row.length):∃cs:List Value,(loadCells ⟨c,o,none⟩ n).run P w=.ok cs.toArray w/\bZ (mu rho H w) ((row.drop o).take n) cs/\cs.length=n:=by
 obtain⟨cs,e,fr,h1,h2⟩:=h.row hr hrow;have hle:=h2.le;refine⟨(cs.toList.drop o).take n,?_,h2.vrs hn,by simp;omega⟩;have hl:((cs.toList.drop o).take n).length=n:=by simp;omega
 have:=run_loadCells_list (P:=P) w ⟨c,o,none⟩ ((cs.toList.drop o).take n) (λj v hv=>by
  rw[Addr.add_lit];rw[Yy]at hv;split at hv;.rw[WG,Yr]at hv;simp[World.cell?,h1,hv]
  .cases hv);rwa[hl]at this
theorem ie{g o}{t}{fr}:∀(vs)(i)(cur)(w),w.heap[g]?=some (.cells cur t fr)->o+i+vs.length<=cur.size->(∀v∈vs,v.oneCell'=true)->(∀j,j<cur.size->¬(fr.1<=j/\j<fr.2))->∃w' cur',(storeCells ⟨g,o,none⟩ vs i).run P w=.ok () w'/\w'.heap[g]?=some (.cells cur' t fr)/\cur'.size=cur.size/\(∀j:Nat,cur'[j]?=if o+i<=j/\j<o+i+vs.length then vs[j-(o+i)]?else cur[j]?)/\(∀j,j≠g->w'.heap[j]?=w.heap[j]?)/\w'.heap.size=w.heap.size/\Ha w w'
 |[],i,cur,w,hg,_,_,_=>⟨w,cur,rfl,hg,rfl,λj=>by rw[if_neg (by simp)],λ_ _=>rfl,rfl,rfl,rfl,rfl⟩|v::vs,i,cur,w,hg,hl,hv,hfr=>by
  simp only[YG]at hl;have hlt:o+i<cur.size:=by omega
  have hcell:w.cell? ⟨g,o+i,none⟩=some cur[o+i]:=by simp[World.cell?,hg,hlt]
  have hfz:w.frozen? ⟨g,o+i,none⟩=false:=by have:=hfr (o+i) hlt;simp only[World.frozen?,hg];simp_all
  have hg':(w.setCell ⟨g,o+i,none⟩ v).heap[g]?=some (.cells (cur.setIfInBounds (o+i) v) t fr):=by simp[World.setCell,QA,hg]
  obtain⟨w',cur',h1,h2,h3,h4,h5,h6,h7⟩:=ie (o:=o) vs (i+1) _ _ hg' (by simp;omega) (λu hu=>hv u (YI _ hu)) (by simp_all);refine⟨w',cur',?_,h2,by simp_all,λj=>?_,λj hj=>?_,?_,?_⟩;.simp only[storeCells,Sem.run_bind,Addr.add_lit,run_store P w _ v .plain (hv v (YM ..)),hcell,hfz];simp_all
  .rw[h4];simp only[YG];by_cases hj:j=o+i;.subst hj;rw[if_neg (by omega),if_pos (by omega)];simp_all
   .by_cases hj2:o+(i+1)<=j/\j<o+(i+1)+vs.length;.rw[if_pos hj2,if_pos (by omega),show j-(o+i)=(j-(o+(i+1)))+1by omega];simp
    .rw[if_neg hj2,if_neg (by omega),WV (λe=>hj e.symm)]
  .rw[h5 j hj];simp[World.setCell,QA,Ne.symm hj]
  .simp_all
  .exact⟨h7.os,h7.tape,h7.output⟩
theorem xx{id b off}{k}(h:nE id H b off k=1):∃row v,rowOf (H.get b)=some row/\row[off]?=some v/\k v=1:=by
 unfold nE at h;rw[aX]at h;rcases mL h with⟨l,hb,h1⟩|⟨len,n,hb,h1⟩;.obtain⟨v,h2,h3⟩:=tI h1;exact⟨l,v,by rw[hb];rfl,h2,h3⟩
 .obtain⟨h2,h3⟩:=aV h1;have hlt:=eM h2;rw[ax]at h3;refine⟨_,eo (UInt8.ofNat (n/256^off%256)),by rw[hb];rfl,by rw[Ys,rb _ _ _ hlt];rfl,?_⟩;have e:YB3 (WC n (Ym 8 off)) 255=n/256^off%256:=by show(n>>>(8*off))&&&255=_;rw[WD,QU,show(255:Nat)=2^8-1by rfl,QT]
  rw[e]at h3;simpa[eo]using h3
theorem oS{id b off n}{k}(h:eH id H b off n k=1):∃row,rowOf (H.get b)=some row/\off+n<=row.length/\k ((row.drop off).take n)=1:=by
 unfold eH at h;rw[aX]at h;rcases mL h with⟨l,hb,h1⟩|⟨len,m,hb,h1⟩;.obtain⟨h2,h3⟩:=ma h1;obtain⟨h4,h5⟩:=kP h3;refine⟨l,by rw[hb];rfl,by simp at h4;omega,h5⟩
 .obtain⟨h2,h3⟩:=aV h1;have hle:off+n<=len:=cw h2;rw[iP]at h3;refine⟨_,by rw[hb];rfl,by simpa[aL]using hle,?_⟩;have e:WC m (Ym 8 off)=m/256^off:=by show m>>>(8*off)=_;rw[WD,QU]
  rw[e]at h3;rw[<-YF4,<-YB4,jo _ _ _ (by omega),jq _ _ _ (by omega)];omega
def nH:ep->Option (List V)|.view l=>some l|bl=>rowOf bl
theorem FL{bl}{row}(h:nH bl=some row):bl.alive:=by cases bl<;>simp[nH,rowOf]at h<;>trivial
theorem PR.agW(h:PR P base w0 rho H w){b c:Nat}{row:List V}(hr:rho b=some c)(hrow:nH (H.get b)=some row):∃cs e fr,w.heap[c]?=some (.cells cs e fr)/\∀(i:Nat)(v:V),row[i]?=some v->(v.one=true\/rowOf (H.get b)=some row)->v.one=true/\(∃cv,cs[i]?=some cv/\VR (mu rho H w) v cv)/\¬(fr.1<=i/\i<fr.2):=by
 by_cases ho:rowOf (H.get b)=some row;.obtain⟨cs,e,fr,h1,h2⟩:=h.row hr ho;refine⟨cs,e,fr,h1,λi v hi _=>?_⟩;obtain⟨h3,cv,h4,h5⟩:=h2.1 i v hi;exact⟨h3,⟨cv,h4,h5⟩,h2.2 i (YP.1 h4).1⟩
 .obtain⟨o,h1,h2⟩:=h.cV b c hr
  cases hb:H.get b with|view l=>rw[hb]at h2 hrow;simp only[nH,Option.some.injEq]at hrow;subst hrow;obtain⟨cs,e,fr,rfl,h3⟩:=h2;exact⟨cs,e,fr,h1,λi v hi hv=>by
    rcases hv with hv|hv;.exact⟨hv,h3 i v hi hv⟩
    .simp [rowOf]at hv⟩|_=>rw[hb]at hrow ho;exact absurd hrow ho
theorem PR.xV(h:PR P base w0 rho H w){b c:Nat}{row:List V}(hm:(mu rho H w).b b c)(hrow:nH (H.get b)=some row):rho b=some c:=hm.2 (FL hrow)
theorem PR.S9(h:PR P base w0 rho H w){b c i:Nat}{row:List V}{v:V}(hr:rho b=some c)(hrow:nH (H.get b)=some row)(hi:row[i]?=some v)(ho:v.one=true\/rowOf (H.get b)=some row):∃cv,w.cell? ⟨c,i,none⟩=some cv/\VR (mu rho H w) v cv/\v.one=true/\w.frozen? ⟨c,i,none⟩=false:=by obtain⟨cs,e,fr,h1,h2⟩:=h.agW hr hrow;obtain⟨h3,⟨cv,h4,h5⟩,h6⟩:=h2 i v hi ho;exact⟨cv,by simp[World.cell?,h1,h4],h5,h3,by simp only[World.frozen?,h1];simpa using h6⟩
theorem PR.Ja(h:PR P base w0 rho H w){b c o n:Nat}{row:List V}(hr:rho b=some c)(hrow:nH (H.get b)=some row)(hn:o+n<=row.length)(ho:(∀v∈(row.drop o).take n,v.one=true)\/rowOf (H.get b)=some row):∃cs:List Value,(loadCells ⟨c,o,none⟩ n).run P w=.ok cs.toArray w/\bZ (mu rho H w) ((row.drop o).take n) cs/\cs.length=n/\∀(j:Nat)(cv:Value),cs[j]?=some cv->w.cell? ⟨c,o+j,none⟩=some cv/\cv.oneCell'=true/\w.frozen? ⟨c,o+j,none⟩=false:=by
 have key:∀j,j<n->∃(v:V)(cv:Value),row[o+j]?=some v/\w.cell? ⟨c,o+j,none⟩=some cv/\VR (mu rho H w) v cv/\cv.oneCell'=true/\w.frozen? ⟨c,o+j,none⟩=false:=λj hj=>by have hi:row[o+j]?=some row[o+j]:=YA (by omega);have ho':row[o+j].one=true\/rowOf (H.get b)=some row:=ho.imp (λh=>h _ (by refine Yj (i:=j) ?_;rw[Yy,if_pos hj,WG];exact hi)) id;obtain⟨cv,a1,a2,a3,a4⟩:=h.S9 hr hrow hi ho';exact⟨_,cv,hi,a1,a2,tJ a2 a3,a4⟩
 let cs:List Value:=(WZ n).map λj=>(w.cell? ⟨c,o+j,none⟩).getD undef;have hcs:∀(j:Nat)(cv:Value),cs[j]?=some cv->j<n/\w.cell? ⟨c,o+j,none⟩=some cv:=λj cv hj=>by
  have hlt:j<n:=by have:=(List.getElem?_eq_some_iff.1 hj).1;simpa[cs]using this
  obtain⟨v,cv',_,a1,_⟩:=key j hlt;refine⟨hlt,?_⟩;simp only[cs,Ys,List.getElem?_range hlt,Option.map_some,a1,YU,Option.some.injEq]at hj;rw[a1,hj]
 have hl:cs.length=n:=by simp[cs]
 refine⟨cs,?_,?_,hl,λj cv hj=>?_⟩;.have:=run_loadCells_list (P:=P) w ⟨c,o,none⟩ cs (λj v hv=>by rw[Addr.add_lit];exact(hcs j v hv).2);rwa[hl]at this
 .refine bZ.pn (by simp[cs];omega) λi v cv h1 h2=>?_;obtain⟨hi,h3⟩:=hcs i cv h2;obtain⟨v',cv',a1,a2,a3,_⟩:=key i hi;rw[Yy,if_pos hi,WG,a1]at h1;cases h1;rw[h3]at a2;cases a2;exact a3
 .obtain⟨hj',h3⟩:=hcs j cv hj;obtain⟨v',cv',a1,a2,a3,a4,a5⟩:=key j hj';rw[h3]at a2;cases a2;exact⟨h3,a4,a5⟩
theorem Pb{id}{bl}{kc}{kb}{kv}(h:bRd id bl kc kb kv=1):(∃l,bl=.cells l/\kc l=1)\/(∃len n,bl=.bytes len n/\kb len n=1)\/∃l,bl=.view l/\kv l=1:=by cases bl<;>first|exact(aw h).elim|exact YH ⟨_,rfl,h⟩|exact YD (YH ⟨_,_,rfl,h⟩)|exact YD (YD ⟨_,rfl,h⟩)
theorem An{id}{v}{k}(h:dP id v k=1):v.one=true/\k=1:=by cases v<;>first|exact(aw h).elim|exact⟨rfl,h⟩
theorem vY{id}:∀{l}{k},bA id l k=1->(∀v∈l,v.one=true)/\k=1|[],k,h=>⟨λ_ h=>absurd h (by simp),h⟩|v::l,k,h=>by obtain⟨h1,h2⟩:=An (show dP id v (bA id l k)=1from h);obtain⟨h3,h4⟩:=vY h2;simp_all
theorem Ta{id b off}{k}(h:K2 id H b off k=1):∃row v,nH (H.get b)=some row/\row[off]?=some v/\(v.one=true\/rowOf (H.get b)=some row)/\k v=1:=by
 unfold K2 at h;rw[aX]at h;rcases Pb h with⟨l,hb,h1⟩|⟨len,n,hb,h1⟩|⟨l,hb,h1⟩;.obtain⟨row,v,h2,h3,h4⟩:=xx (id:=id) (by unfold nE;rw[aX,hb];exact h1);rw[hb]at h2;exact⟨row,v,by rw[hb];exact h2,h3,YD (by simp_all),h4⟩
 .obtain⟨row,v,h2,h3,h4⟩:=xx (id:=id) (by unfold nE;rw[aX,hb];exact h1);rw[hb]at h2;exact⟨row,v,by rw[hb];exact h2,h3,YD (by simp_all),h4⟩
 .obtain⟨v,h2,h3⟩:=tI h1;obtain⟨h4,h5⟩:=An h3;exact⟨l,v,by rw[hb];rfl,h2,YH h4,h5⟩
theorem Jb{id b off n}{k}(h:FC id H b off n k=1):∃row,nH (H.get b)=some row/\off+n<=row.length/\((∀v∈(row.drop off).take n,v.one=true)\/rowOf (H.get b)=some row)/\k ((row.drop off).take n)=1:=by
 unfold FC at h;rw[aX]at h;rcases Pb h with⟨l,hb,h1⟩|⟨len,m,hb,h1⟩|⟨l,hb,h1⟩;.obtain⟨row,h2,h3,h4⟩:=oS (by unfold eH;rw[aX,hb];exact h1);rw[hb]at h2;exact⟨row,by rw[hb];exact h2,h3,YD (by simp_all),h4⟩
 .obtain⟨row,h2,h3,h4⟩:=oS (id:=id) (by unfold eH;rw[aX,hb];exact h1);rw[hb]at h2;exact⟨row,by rw[hb];exact h2,h3,YD (by simp_all),h4⟩
 .obtain⟨h2,h3⟩:=ma h1;obtain⟨h4,h5⟩:=kP h3;obtain⟨h6,h7⟩:=vY h5;exact⟨l,by rw[hb];rfl,by simp at h4;omega,YH h6,h7⟩
def A6(l:List V)(x:Nat):Prop:=l=(aC l.length x).map eo/\x<256^l.length
def A7(l:List V):Prop:=∀v∈l,∀x,v=.int 4 x->x<256
theorem xv{id b off n}{k}(h:mh id H b off n k=1):∃row x,rowOf (H.get b)=some row/\off+n<=row.length/\k x=1/\(∀v∈(row.drop off).take n,∃x,v=.int 4 x)/\(A7 ((row.drop off).take n)->A6 ((row.drop off).take n) x):=by
 unfold mh at h;rw[aX]at h;rcases mL h with⟨l,hb,h1⟩|⟨len,m,hb,h1⟩;.obtain⟨h2,h3⟩:=ma h1;obtain⟨h4,h5⟩:=kP h3;obtain⟨x,h6,h60,h7⟩:=po h5;exact⟨l,x,by rw[hb];rfl,by simp at h4;omega,h6,h60,h7⟩
 .obtain⟨h2,h3⟩:=aV h1;have hle:off+n<=len:=cw h2;rw[ax]at h3;refine⟨_,_,by rw[hb];rfl,by simpa[aL]using hle,h3,λv hv=>?_,λ_=>?_⟩;.rw[<-YF4,<-YB4]at hv;obtain⟨y,_,rfl⟩:=List.mem_map.1 hv;exact⟨_,rfl⟩
  have e:Yx (WC m (Ym 8 off)) (YE1 256 n)=m/256^off%256^n:=by show(m>>>(8*off))%256^n=_;rw[WD,QU]
  rw[e];have hl:(((aC len m).map eo).drop off|>.take n).length=n:=by simp[aL];omega
  refine⟨?_,by rw[hl];omega⟩;rw[hl,<-YF4,<-YB4,jo _ _ _ (by omega),jq _ _ _ (by omega)];congr 1;exact nu _ _ _ (by simp)
theorem VR.U8{m:M}{x:Nat}{c:Value}(h:VR m (.int 4 x) c):x<256/\c=.int .u8 x:=by simp only[VR]at h;obtain⟨h1,h2,_⟩:=h;have h3:x<256:=h2;exact⟨h3,h1.trans (by show Value.int .u8 (toI .u8 x)=_;rw[toI_u8 x h3])⟩
theorem bZ.mem{m:M}{l:List V}{cs:List Value}(h:bZ m l cs){v:V}(hv:v∈l):∃c∈cs,VR m v c:=by obtain⟨i,hi⟩:=QG hv;obtain⟨c,h1,h2⟩:=h.get hi;exact⟨c,Yj h1,h2⟩
theorem bZ.small{m:M}{l:List V}{cs:List Value}(h:bZ m l cs):A7 l:=λv hv x e=>by obtain⟨c,_,h2⟩:=h.mem hv;subst e;exact h2.U8.1
theorem zo{len x off ml mx:Nat}(hx:x<256^len)(hm:mx<256^ml)(hl:off+ml<=len):aC len (Yf (Yx x (YE1 256 off)) (Yt (Yf mx (Yt (WC x (Ym 8 (Yf off ml))) (Ym 8 ml))) (Ym 8 off)))=(aC len x).take off++(aC ml mx++(aC len x).drop (off+ml))/\Yf (Yx x (YE1 256 off)) (Yt (Yf mx (Yt (WC x (Ym 8 (Yf off ml))) (Ym 8 ml))) (Ym 8 off))<256^len:=by
 have e1:WC x (Ym 8 (Yf off ml))=x/256^(off+ml):=by show x>>>(8*(off+ml))=_;rw[WD,QU]
 have e2:∀y k,Yt y (Ym 8 k)=256^k*y:=λy k=>by show y<<<(8*k)=_;rw[Qr,QU,Wq]
 rw[e1,e2,e2];show aC len (x%256^off+256^off*(mx+256^ml*(x/256^(off+ml))))=_/\x%256^off+256^off*(mx+256^ml*(x/256^(off+ml)))<_;have hp:0<256^off:=Nat.pow_pos (by simp);have hmod:x%256^off<256^off:=Qo _ hp;have hd:=by apply YG0;rw[<-YG1,show off+ml+(len-off-ml)=len by omega];omega
 constructor;.have:=fi off (ml+(len-off-ml)) (x%256^off) (mx+256^ml*(x/256^(off+ml))) hmod;rw[show off+(ml+(len-off-ml))=len by omega]at this;rw[this,fi ml _ _ _ hm,jq _ _ _ (by omega),jo _ _ _ hl,show len-(off+ml)=len-off-ml by omega];rw[nu off (x%256^off) x (by simp)]
 .have h1:=by calc mx+256^ml*(x/256^(off+ml))<256^ml+256^ml*(x/256^(off+ml)):=by omega
    _=256^ml*(x/256^(off+ml)+1):=by rw[YM4,Wb,YG4]
    _<=256^ml*256^(len-off-ml):=YB1 _ hd
  calc x%256^off+256^off*(mx+256^ml*(x/256^(off+ml)))<256^off+256^off*(mx+256^ml*(x/256^(off+ml))):=by omega
   _=256^off*(mx+256^ml*(x/256^(off+ml))+1):=by rw[YM4 _ _ 1,Wb,YG4]
   _<=256^off*(256^ml*256^(len-off-ml)):=YB1 _ h1
   _=256^len:=by rw[<-YG1,<-YG1];congr 1;omega
theorem jt.Tz{mu:M}{row m:List V}{cs cs':Array Value}{ms:List Value}{fr:Nat×Nat}{o:Nat}(h:jt mu row cs fr)(hm:bZ mu m ms)(h1:∀v∈m,v.one=true)(hl:o+m.length<=row.length)(hsz:cs'.size=cs.size)(hg:∀j:Nat,cs'[j]?=if o+0<=j/\j<o+0+ms.length then ms[j-(o+0)]?else cs[j]?):jt mu (row.take o++(m++row.drop (o+m.length))) cs' fr:=by
 refine⟨λi v hi=>?_,by rw[hsz];exact h.2⟩;have hml:=hm.length;rw[hg];by_cases hi1:i<o;.rw[Yp (by simp;omega),Yy,if_pos hi1]at hi;rw[if_neg (by omega)];exact h.1 i v hi
 .rw[Yl (by simp;omega)]at hi;rw[show(row.take o).length=o by simp;omega]at hi;by_cases hi2:i-o<m.length;.rw[Yp hi2]at hi;rw[if_pos (by omega)];obtain⟨c,h2,h3⟩:=hm.get hi;exact⟨h1 v (Yj hi),c,by simpa using h2,h3⟩
  .rw[Yl (by omega),WG,show o+m.length+(i-o-m.length)=i by omega]at hi;rw[if_neg (by omega)];exact h.1 i v hi
theorem CG{mm}{m}{ms}(hv:bZ mm m ms)(hone:∀v∈m,v.one=true):∀u∈ms,u.oneCell'=true:=λu hu=>by
 obtain⟨i,hi⟩:=QG hu;have hlt:i<m.length:=by
  rw[<-hv.length];rcases Ye i ms.length with h|h;.omega
  simp_all
 obtain⟨c',h3,h4⟩:=hv.get (YA hlt);rw[hi]at h3;cases h3;exact tJ h4 (hone _ (List.getElem_mem hlt))
theorem yc{id b off}{m}{k}(h1:dO id H b off m k=1):∀v∈m,v.one=true:=by
 unfold dO at h1;rw[aX]at h1;rcases mL h1 with⟨l,hb,h2⟩|⟨len,x,hb,h2⟩;.exact(eX h2).1
 .obtain⟨mx,h3,h30,h4⟩:=po h2;exactλv hv=>by obtain⟨x,rfl⟩:=h30 v hv;rfl
end
end Go.Ev
end
section
namespace Go.Ev
open Go.RowKit
abbrev WF(rd:Option Nat):Fence:={fn:=λ_=>True,depth:=none,alive:=false,round:=rd}
def aA(a:Arg)(e:Env):V:=match a with|.s s=>af s e|.c v=>v
theorem aq(a)(e)(k):aK a e k=k (aA a e):=by cases a with|s s=>exact dX s e k|c v=>rfl
theorem gZ:∀(l)(e)(k),oI l e k=k (l.map (aA · e))|[],_,_=>rfl|a::l,e,k=>by show aK a e (λv=>oI l e λr=>k (v::r))=_;rw[aq,gZ];rfl
theorem qJ{mu}{v}{u}(h:mO v=some u):VR mu u v/\u.one=true:=by
 unfold mO at h;split at h;.cases h;exact⟨by rfl,rfl⟩
 .rename_i k n;split at h
  .rename_i hw;have hw':=by simpa using hw
   cases h;refine⟨?_,rfl⟩;have hm0:0<=n%(2^k.bits:Nat):=Int.emod_nonneg _ (by cases k<;>decide);have hm1:n%(2^k.bits:Nat)<(2^k.bits:Nat):=Int.emod_lt_of_pos _ (by omega);simp only[VR,dE];refine⟨?_,?_,xk k⟩
   .congr 1;show n=k.wrap _;rw[Int.toNat_of_nonneg hm0];conv=>lhs;rw[<-hw']
    unfold IntKind.wrap;simp
   .unfold fj;omega
  simp_all
 .cases h;refine⟨?_,rfl⟩;simp only[VR];rw[fF];exact⟨rfl,iJ _⟩
 all_goals first|(cases h;exact⟨by rfl,rfl⟩)|cases h
theorem l9{mu}:∀{l}{r},consts l=some r->bZ mu r l/\∀u∈r,u.one=true
 |[],r,h=>by simp only[consts,Option.some.injEq]at h;subst h;exact⟨by rfl,λ_ h=>absurd h (by simp)⟩|v::l,r,h=>by
  simp only[consts]at h;split at h;.rename_i u r' h1 h2;cases h;obtain⟨h3,h4⟩:=qJ h1;obtain⟨h5,h6⟩:=l9 h2;exact⟨by exact⟨v,l,rfl,h3,h5⟩,λx hx=>(YS.1 hx).elim (λe=>e▸h4) (h6 x)⟩
  simp_all
theorem td{mu}{v}{u}(h:Bn v=some u):VR mu u v:=by
 unfold Bn at h;split at h;.simp only[Yg]at h;obtain⟨r,h1,rfl⟩:=h;exact⟨_,rfl,(l9 h1).1⟩
 .simp only[Yg]at h;obtain⟨r,h1,rfl⟩:=h;exact⟨_,rfl,(l9 h1).1⟩
 .exact(qJ h).1
theorem kj{mu}{nt}{e}{a:Act}{x}{ar}(ht:TR mu nt e a.tmps)(h:aM nt x=some ar):VR mu (aA ar e) (a.eval x):=by
 unfold aM at h;split at h
 .rename_i t;split at h
  .cases h;have hs:=ht.size;have hlt':t<a.tmps.size:=by simp_all
   have hex:=Array.getElem?_eq_getElem hlt';have:=ht.get t _ hex;simpa[aA,Act.eval,hex]using this
  simp_all
 .simp only[Yg]at h;obtain⟨u,h1,rfl⟩:=h;exact td h1
 .cases h;simp only[aA,Act.eval,VR];exact⟨#[],by simp,by rfl⟩
 simp_all
def OR(mu:M)(nt:Nat)(e:Env)(a:Act)(o:Oper):Prop:=∀x∈o.op.operands,∀ar,aM nt x=some ar->VR mu (aA ar e) (a.eval x)
theorem TR.or{mu:M}{nt:Nat}{e:Env}{a:Act}(h:TR mu nt e a.tmps)(o:Oper):OR mu nt e a o:=λ_ _ _ h1=>kj h h1
def Left(P:Program)(base:Nat)(w0:World)(rho:Nat->Option Nat)(H:Heap)(w:World)(v:V)(H':Heap)(cv:Value)(w':World):Prop:=∃rho',VR (mu rho' H' w') v cv/\PR P base w0 rho' H' w'/\Ext rho H w rho' H' w'
def eW(P:Program)(nt:Nat)(o:Oper)(e:Env)(H:Heap)(v:V)(H':Heap):Prop:=∀(rd:Option Nat)(base:Nat)(w0:World)(rho:Nat->Option Nat)(w:World)(a:Act),PR P base w0 rho H w->OR (mu rho H w) nt e a o->o.wpIn (WF rd) 0 P a w (λa' w'=>∃cv,a'=a.put o.dst cv/\Left P base w0 rho H w v H' cv w') (λ_ _ _=>False)
def FSp(P:Program)(x:V)(args:List V)(H:Heap)(v:V)(H':Heap):Prop:=∀(rd:Option Nat)(base:Nat)(w0:World)(rho:Nat->Option Nat)(w:World)(cx:Value)(cargs:Array Value),PR P base w0 rho H w->VR (mu rho H w) x cx->bZ (mu rho H w) args cargs.toList->∀(o:Oper)(a:Act),o.uponIn (WF rd) 0 P a (λa' w'=>∃cv,a'=a.put o.dst cv/\Left P base w0 rho H w v H' cv w') (λ_ _ _=>False) ((do let d<-Deferred.ofValue cx cargs;invoke d.target d.args:Sem Next).run P w)
def gS(P:Program)(f:FuncId)(args:List V)(H:Heap)(v:V)(H':Heap):Prop:=∀(base:Nat)(w0:World)(rho:Nat->Option Nat)(w:World)(cargs:Array Value),PR P base w0 rho H w->bZ (mu rho H w) args cargs.toList->(callFunc f cargs).run P w=.ok (.enter f cargs) w/\CallsIn (WF none) 0 P f cargs w λe w'=>∃cv,e=.returned cv/\Left P base w0 rho H w v H' cv w'
def FSq(P:Program)(x:V)(args:List V)(H:Heap)(v:V)(H':Heap):Prop:=FSp P x args H v H'/\∀f caps,x=.func (2*f) caps->gS P f (args++caps) H v H'
def iX(P:Program)(ph:dm):Prop:=∀x args H k,ph x args H k=1->∃v H',FSq P x args H v H'/\k v H'=1
theorem iA(P)(o:Oper)(a:Act)(w)(rd):∀f,o.about P w a.eval=some f->(WF rd).fn f:=λ_ _=>trivial
theorem semAt_eq{o}{rd}{r}(h:∀c,o.op≠.defer c):o.semAt rd r=execOp r o:=by unfold Oper.semAt;simp_all
theorem eW.of_run{P:Program}{nt:Nat}{o:Oper}{e:Env}{H H':Heap}{v:V}(hnd:∀c,o.op≠.defer c)(h:∀(base:Nat)(w0:World)(rho:Nat->Option Nat)(w:World)(a:Act),PR P base w0 rho H w->OR (mu rho H w) nt e a o->∃cv w',(execOp a.eval o).run P w=.ok (.value cv) w'/\Left P base w0 rho H w v H' cv w'):eW P nt o e H v H':=by intro rd base w0 rho w a hp ho;obtain⟨cv,w',h1,h2⟩:=h base w0 rho w a hp ho;refine⟨iA P o a w rd,?_⟩;rw[semAt_eq hnd,h1];exact⟨cv,rfl,h2⟩
theorem eW.BW{P:Program}{nt:Nat}{o:Oper}{e:Env}{H H':Heap}(hnd:∀c,o.op≠.defer c)(h:∀(base:Nat)(w0:World)(rho:Nat->Option Nat)(w:World)(a:Act),PR P base w0 rho H w->OR (mu rho H w) nt e a o->∃w',(execOp a.eval o).run P w=.ok .skip w'/\∃rho',PR P base w0 rho' H' w'/\Ext rho H w rho' H' w'):eW P nt o e H (.cG []) H':=by intro rd base w0 rho w a hp ho;obtain⟨w',h1,rho',h2,h3⟩:=h base w0 rho w a hp ho;refine⟨iA P o a w rd,?_⟩;rw[semAt_eq hnd,h1];exact⟨undef,rfl,rho',by simp only[VR];exact⟨#[],rfl,by simp only[bZ]⟩,h2,h3⟩
theorem eW.bJ{P:Program}{nt:Nat}{o:Oper}{e:Env}{H:Heap}{v:V}(hnd:∀c,o.op≠.defer c)(h:∀(m:M)(w:World)(a:Act),OR m nt e a o->∃cv,(execOp a.eval o).run P w=.ok (.value cv) w/\VR m v cv):eW P nt o e H v H:=eW.of_run hnd λbase w0 rho w a hp ho=>by obtain⟨cv,h1,h2⟩:=h _ w a ho;exact⟨cv,w,h1,rho,h2,hp,Ext.refl hp.lt⟩
section
variable{P:Program}{nt:Nat}{o:Oper}{id:Nat}{ph:dm}{e:Env}{H:Heap}{k:K}
def Good(P:Program)(nt:Nat)(o:Oper)(e:Env)(H:Heap)(k:K):Prop:=∃v H',eW P nt o e H v H'/\k v H'=1
theorem Ti{x}(hop:o.op=.move x\/o.op=.assign x)(h:aR (ai P nt o) id ph e H k=1):Good P nt o e H k:=by
 have hc:ai P nt o=match aM nt x with|some a=>.gJ a|none=>.bad:=by rcases hop with h|h<;>simp only[ai,h]<;>rfl
 rw[hc]at h;split at h;.rename_i a ha;have h':aK a e (λv=>k v H)=1:=h;rw[aq]at h';refine⟨_,_,eW.bJ (by rcases hop with h|h<;>simp[h]) λm w ac ho=>?_,h'⟩;exact⟨ac.eval x,by rcases hop with h|h<;>simp[execOp,h],ho x (by rcases hop with h|h<;>simp[Op.operands,h]) a ha⟩
 .exact(aw h).elim
theorem abi{c x y}(hop:o.op=.pick c x y)(h:aR (ai P nt o) id ph e H k=1):Good P nt o e H k:=by
 simp only[ai,hop]at h;split at h
 .rename_i c' x' y' hc hx hy;have h':aK c' e (λc=>eK id c λb=>aI b (aK x' e λv=>k v H) (aK y' e λv=>k v H))=1:=h;rw[aq]at h';obtain⟨b,hb,h2⟩:=mD h';rw[aq,aq]at h2;cases b;.refine⟨_,_,eW.bJ (by simp_all) λm w ac ho=>?_,h2⟩;have h3:=ho c (by simp[Op.operands,hop]) c' hc;rw[hb]at h3;simp only[VR]at h3;exact⟨ac.eval y,by simp[execOp,hop,h3,asBool],ho y (by simp[Op.operands,hop]) y' hy⟩
  .refine⟨_,_,eW.bJ (by simp_all) λm w ac ho=>?_,h2⟩;have h3:=ho c (by simp[Op.operands,hop]) c' hc;rw[hb]at h3;simp only[VR]at h3;exact⟨ac.eval x,by simp[execOp,hop,h3,asBool],ho x (by simp[Op.operands,hop]) x' hx⟩
 .exact(aw h).elim
end
end Go.Ev
end
section
namespace Go.Ev
theorem fL(m n:Nat):YN m n=decide (m=n):=by
 by_cases h:m=n;.simp_all
 .rw[decide_eq_false h];cases hq:YN m n with|false=>rfl|true=>simp_all
theorem T1(k:IntKind)(x):k.wrap x%(2^k.bits:Int)=x%(2^k.bits:Int):=by cases k<;>simp only[IntKind.wrap,IntKind.bits,IntKind.signed,Qp,QB]<;>(simp)<;>omega
theorem ru(k:IntKind){x y}(h:x%(2^k.bits:Int)=y%(2^k.bits:Int)):k.wrap x=k.wrap y:=by unfold IntKind.wrap;rw[h]
theorem abO(k):((fj k:Nat):Int)=2^k.bits:=by rfl
theorem pG(k){x}{n:Nat}(h:x%(2^k.bits:Int)=(n:Int)%(2^k.bits:Int)):k.wrap x=toI k n:=ru k h
theorem toI_mod(k)(n):toI k n%(2^k.bits:Int)=(n:Int)%(2^k.bits:Int):=T1 k _
theorem xj(k):0<fj k:=by cases k<;>decide
theorem toI_small(k)(n)(h:n<half k):toI k n=n:=by show k.wrap (n:Int)=n;cases k<;>simp only[half,IntKind.wrap,IntKind.bits,IntKind.signed,Qp,QB,if_true,YT,if_false]at*<;>(simp)<;>first|omega|(simp at h2)|rfl
theorem toI_off(k)(n)(h:n<fj k):toI k n=(((n+dR k)%2^k.bits:Nat):Int)-(dR k:Nat):=by show k.wrap (n:Int)=_;cases k<;>simp[dR,IntKind.wrap,IntKind.bits,IntKind.signed]at*<;>(omega)<;>omega
theorem toI_inj(k){a b}(ha:a<fj k)(hb:b<fj k)(h:toI k a=toI k b):a=b:=by have h1:=toI_mod k a;rw[h,toI_mod k b]at h1;have e1:(a:Int)%2^k.bits=a:=YI1 (by omega) (by exact_mod_cast ha);have e2:(b:Int)%2^k.bits=b:=YI1 (by omega) (by exact_mod_cast hb);omega
theorem toI_64{n}{kd}(hk:3<=kd)(hk8:kd<8)(h:n<9223372036854775808)(hm:n<fj (oQ kd)):toI (oQ kd) n=n:=by refine toI_small _ _ ?_;rcases(by omega:kd=3\/kd=4\/kd=5\/kd=6\/kd=7)with rfl|rfl|rfl|rfl|rfl<;>simp[oQ,half,IntKind.signed,IntKind.bits,fj]at*<;>omega
theorem tX(k){a}(h:a<fj k):BitVec.ofInt k.bits (toI k a)=BitVec.ofNat k.bits a:=by apply BitVec.eq_of_toNat_eq;rw[BitVec.toNat_ofInt,BitVec.toNat_ofNat];have:=toI_mod k a;rw[show((2^k.bits:Nat):Int)=(2:Int)^k.bits by simp,this];rfl
section
variable{P:Program}{w:World}
theorem Pe{t:TypeId}{op:BinOp}{k ky:IntKind}{f:BF}{id a b:Nat}{c:Nat->R}(hf:ZV op k=some f)(hky:(sc op=false/\ky=k)\/(sc op=true/\(ky.signed=true->ky.bits=64)))(h:gk id f a b c=1):∃r,c r=1/\(a<fj k->b<fj ky->r<fj k/\∀w:World,(binOp op t (.int k (toI k a)) (.int ky (toI ky b))).run P w=.ok (.int k (toI k r)) w):=by
 have hM:(0:Int)<2^k.bits:=by cases k<;>decide
 have hMn:fj k=2^k.bits:=rfl;have hpos:=xj k;have am:=toI_mod k a;cases op<;>simp only[ZV,Option.some.injEq,reduceCtorEq]at hf<;>subst hf
 .rcases hky with⟨_,rfl⟩|⟨hs,_⟩;.have bm:=toI_mod ky b;have h':av (Yx (Yf a b) (2^ky.bits)) c=1:=h;rw[ax]at h';refine⟨_,h',λha hb=>⟨Qo _ hpos,λw=>?_⟩⟩;simp only[binOp,ne_eq,not_true_eq_false,if_false,Op.intArith,Sem.run_pure];congr 2;refine pG ky ?_;rw[Int.add_emod,am,bm,<-Int.add_emod];show _=(((a+b)%2^ky.bits:Nat):Int)%_;simp
  .cases hs
 .rcases hky with⟨_,rfl⟩|⟨hs,_⟩;.have bm:=toI_mod ky b;have h':av (Yx (Yf a (QN (2^ky.bits) b)) (2^ky.bits)) c=1:=h;rw[ax]at h';refine⟨_,h',λha hb=>⟨Qo _ hpos,λw=>?_⟩⟩;simp only[binOp,ne_eq,not_true_eq_false,if_false,Op.intArith,Sem.run_pure];congr 2;refine pG ky ?_;rw[Int.sub_emod,am,bm,<-Int.sub_emod];show _=(((a+(2^ky.bits-b))%2^ky.bits:Nat):Int)%_;have hb':b<2^ky.bits:=hb;rw[Int.natCast_emod,Int.natCast_add,Int.natCast_sub (Qc hb')];simp only[Int.natCast_pow,Int.cast_ofNat_Int,Int.emod_emod_of_dvd _ (Int.dvd_refl _)];rw[show(a:Int)+(2^ky.bits-(b:Int))=((a:Int)-b)+2^ky.bits by omega,Int.add_emod_right]
  .cases hs
 .rcases hky with⟨_,rfl⟩|⟨hs,_⟩;.have bm:=toI_mod ky b;have h':av (Yx (Ym a b) (2^ky.bits)) c=1:=h;rw[ax]at h';refine⟨_,h',λha hb=>⟨Qo _ hpos,λw=>?_⟩⟩;simp only[binOp,ne_eq,not_true_eq_false,if_false,Op.intArith,Sem.run_pure];congr 2;refine pG ky ?_;rw[YK4,am,bm,<-YK4];show _=(((a*b)%2^ky.bits:Nat):Int)%_;simp
  .cases hs
 .rcases hky with⟨_,rfl⟩|⟨hs,_⟩
  .have h':aI (Yz a (half ky)) (aI (Yz b (half ky)) (aI (YN b 0) (no _) (av (Wm a b) c)) (no _)) (no _)=1:=h;obtain⟨h1,h2⟩:=aV h';obtain⟨h3,h4⟩:=aV h2;rcases bT h4 with⟨_,h5⟩|⟨h5,h6⟩;.exact(aw h5).elim
   .rw[ax]at h6;have hb0:b≠0:=λe=>by subst e;cases h5
    have ha':=eM h1;have hdv:a/b<half ky:=Wt (YM1 a b) ha';refine⟨_,h6,λha hb=>⟨Wt (YM1 a b) ha,λw=>?_⟩⟩;rw[toI_small ky a ha',toI_small ky b (eM h3)];have hz:(b:Int)≠0:=by omega
    simp only[binOp,ne_eq,not_true_eq_false,if_false,Op.intDiv,hz,Sem.run_pure];congr 2
  .cases hs
 .rcases hky with⟨_,rfl⟩|⟨hs,_⟩
  .have h':aI (Yz a (half ky)) (aI (Yz b (half ky)) (aI (YN b 0) (no _) (av (Yx a b) c)) (no _)) (no _)=1:=h;obtain⟨h1,h2⟩:=aV h';obtain⟨h3,h4⟩:=aV h2;rcases bT h4 with⟨_,h5⟩|⟨h5,h6⟩;.exact(aw h5).elim
   .rw[ax]at h6;have hb0:b≠0:=λe=>by subst e;cases h5
    have ha':=eM h1;have hdv:a%b<half ky:=Wt (Nat.mod_le a b) ha';refine⟨_,h6,λha hb=>⟨Wt (Nat.mod_le a b) ha,λw=>?_⟩⟩;rw[toI_small ky a ha',toI_small ky b (eM h3)];have hz:(b:Int)≠0:=by omega
    simp only[binOp,ne_eq,not_true_eq_false,if_false,Op.intDiv,hz,Sem.run_pure];congr 2;show(a:Int).tmod (b:Int)=toI ky (a%b);rw[toI_small ky _ hdv];rfl
  .cases hs
 .rcases hky with⟨_,rfl⟩|⟨hs,_⟩;.have h':av (YB3 a b) c=1:=h;rw[ax]at h';refine⟨_,h',λha hb=>⟨Wt YR4 ha,λw=>?_⟩⟩;simp only[binOp,ne_eq,not_true_eq_false,if_false,Op.intBits,tX ky ha,tX ky hb,Sem.run_pure];congr 2;show ky.wrap _=toI ky (a&&&b);rw[BitVec.toNat_and,BitVec.toNat_ofNat,BitVec.toNat_ofNat,WE (show a<2^ky.bits from ha),WE (show b<2^ky.bits from hb)];rfl
  .cases hs
 .rcases hky with⟨_,rfl⟩|⟨hs,_⟩;.have h':av (Nat.lor a b) c=1:=h;rw[ax]at h';refine⟨_,h',λha hb=>⟨Nat.or_lt_two_pow (n:=ky.bits) ha hb,λw=>?_⟩⟩;simp only[binOp,ne_eq,not_true_eq_false,if_false,Op.intBits,tX ky ha,tX ky hb,Sem.run_pure];congr 2;show ky.wrap _=toI ky (a|||b);rw[BitVec.toNat_or,BitVec.toNat_ofNat,BitVec.toNat_ofNat,WE (show a<2^ky.bits from ha),WE (show b<2^ky.bits from hb)];rfl
  .cases hs
 .rcases hky with⟨_,rfl⟩|⟨hs,_⟩;.have h':av (YQ0 a b) c=1:=h;rw[ax]at h';refine⟨_,h',λha hb=>⟨Nat.xor_lt_two_pow (n:=ky.bits) ha hb,λw=>?_⟩⟩;simp only[binOp,ne_eq,not_true_eq_false,if_false,Op.intBits,tX ky ha,tX ky hb,Sem.run_pure];congr 2;show ky.wrap _=toI ky (a^^^b);rw[BitVec.toNat_xor,BitVec.toNat_ofNat,BitVec.toNat_ofNat,WE (show a<2^ky.bits from ha),WE (show b<2^ky.bits from hb)];rfl
  .cases hs
 .rcases hky with⟨hs,_⟩|⟨_,hk⟩;.cases hs
  have hbs:∀(hb:b<fj ky)(hlt:b<9223372036854775808),toI ky b=b:=λhb hlt=>by
   refine toI_small _ _ ?_;unfold half fj at*;split;.rename_i hs;rw[hk hs];omega
   .exact hb
  have hbits:k.bits<=64:=by cases k<;>decide
  have h':aI (Yb b k.bits) (av (Yx (Yt a b) (2^k.bits)) c) (aI (Yz b 9223372036854775808) (c 0) (no _))=1:=h;rcases bT h' with⟨h1,h2⟩|⟨h1,h2⟩
  .have hle:=cw h1;rw[ax]at h2;refine⟨_,h2,λha hb=>⟨Qo _ hpos,λw=>?_⟩⟩;have hn:¬((b:Int)<0):=by omega
   simp only[binOp,Op.shift,hbs hb (by omega),hn,if_false,Sem.run_pure,YA0,Wn hle];congr 2;refine pG k ?_;rw[YK4,am,<-YK4];show _=(((a<<<b)%2^k.bits:Nat):Int)%_;rw[Qr];simp
  .obtain⟨h3,h4⟩:=aV h2;have hgt:k.bits<=b:=by
    rcases Ye k.bits b with hlt|hge;.omega
    .rw[WU hge]at h1;cases h1
   refine⟨0,h4,λha hb=>⟨hpos,λw=>?_⟩⟩;have hn:¬((b:Int)<0):=by omega
   simp only[binOp,Op.shift,hbs hb (eM h3),hn,if_false,Sem.run_pure,YA0,Qs hgt];congr 2;refine pG k ?_;simp
 .rcases hky with⟨hs,_⟩|⟨_,hk⟩;.cases hs
  have hbs:∀(hb:b<fj ky)(hlt:b<9223372036854775808),toI ky b=b:=λhb hlt=>by
   refine toI_small _ _ ?_;unfold half fj at*;split;.rename_i hs;rw[hk hs];omega
   .exact hb
  have hbits:k.bits<=64:=by cases k<;>decide
  have h':aI (Yz a (half k)) (aI (Yb b k.bits) (av (WC a b) c) (aI (Yz b 9223372036854775808) (c 0) (no _))) (no _)=1:=h;obtain⟨h0,h0'⟩:=aV h';have ha':=eM h0;have hn:¬((b:Int)<0):=by omega
  rcases bT h0' with⟨h1,h2⟩|⟨h1,h2⟩
  .have hle:=cw h1;rw[ax]at h2;have hsm:a>>>b<=a:=by rw[WD];exact YM1 _ _
   refine⟨_,h2,λha hb=>⟨Wt hsm ha,λw=>?_⟩⟩;simp only[binOp,Op.shift,hbs hb (by omega),hn,if_false,Sem.run_pure,YA0,Wn hle,toI_small k a ha'];congr 2;show(a:Int).fdiv (2^b)=toI k (a>>>b);rw[toI_small k _ (Wt hsm ha'),WD,YH2 _ (by exact_mod_cast Ya (2^b))];simp
  .obtain⟨h3,h4⟩:=aV h2;have hgt:k.bits<=b:=by
    rcases Ye k.bits b with hlt|hge;.omega
    .rw[WU hge]at h1;cases h1
   refine⟨0,h4,λha hb=>⟨hpos,λw=>?_⟩⟩;simp only[binOp,Op.shift,hbs hb (eM h3),hn,if_false,Sem.run_pure,YA0,Qs hgt,toI_small k a ha'];congr 2;show(a:Int).fdiv (2^k.bits)=toI k 0;rw[toI_small k 0 (by cases k<;>decide),YH2 _ (by exact_mod_cast Ya (2^k.bits))];have:(a:Int)<2^k.bits:=by exact_mod_cast(show a<2^k.bits from ha)
   rw[Int.ediv_eq_zero_of_lt (by omega) this];rfl
 .rcases hky with⟨_,rfl⟩|⟨hs,_⟩;.have h':av (YB3 a (YQ0 b (Nat.pred (2^ky.bits)))) c=1:=h;rw[ax]at h';refine⟨_,h',λha hb=>⟨Wt YR4 ha,λw=>?_⟩⟩;simp only[binOp,ne_eq,not_true_eq_false,if_false,Op.intBits,tX ky ha,tX ky hb,Sem.run_pure];congr 2;show ky.wrap _=toI ky (a&&&(b^^^(2^ky.bits-1)));rw[<-BitVec.xor_allOnes,BitVec.toNat_and,BitVec.toNat_xor,BitVec.toNat_allOnes,BitVec.toNat_ofNat,BitVec.toNat_ofNat,WE (show a<2^ky.bits from ha),WE (show b<2^ky.bits from hb)];rfl
  .cases hs
theorem adE{t}{op}{k}{f}{a b}(hf:aaf op k=some f)(ha:a<fj k)(hb:b<fj k):(binOp op t (.int k (toI k a)) (.int k (toI k b))).run P w=.ok (.bool (dQ f a b)) w:=by
 have oa:=toI_off k a ha;have ob:=toI_off k b hb;have hinj:toI k a=toI k b↔a=b:=⟨toI_inj k ha hb,λe=>by rw[e]⟩;have hbeq:=by exact fL a b
 have hblt:∀m n,Yz m n=decide (m<n):=λm n=>by
  by_cases h:m<n;.simp_all
  .rw[decide_eq_false h];cases hq:Yz m n with|false=>rfl|true=>exact absurd (eM hq) h
 have hble:∀m n,Yb m n=decide (m<=n):=λm n=>by
  by_cases h:m<=n;.simp_all
  .rw[decide_eq_false h];cases hq:Yb m n with|false=>rfl|true=>exact absurd (cw hq) h
 cases op<;>simp only[aaf,Option.some.injEq,reduceCtorEq]at hf<;>subst hf<;>simp only[binOp,ne_eq,not_true_eq_false,if_false,Op.intCmp,Sem.run_pure];.congr 2;show(toI k a==toI k b)=YN a b;rw[hbeq];by_cases h:a=b<;>simp[h,hinj]
 .congr 2;show(toI k a !=toI k b)=Bool.rec true false (YN a b);rw[hbeq];by_cases h:a=b<;>simp[h,hinj]
 .congr 2;show decide (toI k a<toI k b)=Yz ((a+dR k)%2^k.bits) ((b+dR k)%2^k.bits);rw[hblt,oa,ob];congr 1;exact propext ⟨λh=>by omega,λh=>by omega⟩
 .congr 2;show decide (toI k a<=toI k b)=Yb ((a+dR k)%2^k.bits) ((b+dR k)%2^k.bits);rw[hble,oa,ob];congr 1;exact propext ⟨λh=>by omega,λh=>by omega⟩
 .congr 2;show decide (toI k a>toI k b)=Yz ((b+dR k)%2^k.bits) ((a+dR k)%2^k.bits);rw[hblt,oa,ob];congr 1;exact propext ⟨λh=>by omega,λh=>by omega⟩
 .congr 2;show decide (toI k a>=toI k b)=Yb ((b+dR k)%2^k.bits) ((a+dR k)%2^k.bits);rw[hble,oa,ob];congr 1;exact propext ⟨λh=>by omega,λh=>by omega⟩
theorem abo{l m n}(hm:m<256^l)(hn:n<256^l):((⟨(aC l m).toArray⟩:ByteArray).toList==(⟨(aC l n).toArray⟩:ByteArray).toList)=YN m n:=by
 have hbeq:=by exact fL m n
 rw[hbeq];by_cases h:m=n;.simp_all
 .rw[decide_eq_false h];simp only[beq_eq_false_iff_ne,ne_eq];intro e;rw[ByteArray.toList_eq,ByteArray.toList_eq]at e;exact h (rf hm hn (by omega))
end
end Go.Ev
end
section
set_option maxRecDepth 10000
namespace Go.Ev
open Go.RowKit
section
variable{P:Program}{nt:Nat}{o:Oper}{id:Nat}{ph:dm}{e:Env}{H:Heap}{k:K}
theorem abh{x}(hop:o.op=.nilCheck x)(h:aR (ai P nt o) id ph e H k=1):Good P nt o e H k:=by
 simp only[ai,hop]at h;split at h
 .rename_i a ha;have h':aK a e _=1:=h;rw[aq]at h';have key:k (aA a e) H=1/\aA a e≠.pj/\aA a e≠.qU/\aA a e≠.Fo:=by generalize aA a e=v at h';cases v<;>first|exact(aw h').elim|simp_all
  refine⟨_,_,eW.bJ (by simp_all) λm w ac ho=>?_,key.1⟩;have h3:=ho x (by simp[Op.operands,hop]) a ha;refine⟨ac.eval x,?_,h3⟩;obtain⟨_,h4,h5,h6⟩:=key;generalize aA a e=v at h3 h4 h5 h6;cases v<;>simp only[VR]at h3<;>first|exact absurd rfl h4|exact absurd rfl h5|exact absurd rfl h6|(simp[execOp,hop,h3];done)|rfl|(obtain⟨c,h3,_⟩:=h3;simp[execOp,hop,h3])|(obtain⟨c,d,o,sp,h3,_⟩:=h3;simp[execOp,hop,h3])
 .exact(aw h).elim
theorem nI{op}{t}{x y}{k1 k2}{a b}{w}:(eqGuard op t x y (.int k1 a) (.int k2 b)).run P w=.ok () w:=by unfold eqGuard;simp
theorem nJ{op}{t}{x y}{a b}{w}:(eqGuard op t x y (.string a) (.string b)).run P w=.ok () w:=by unfold eqGuard;simp
theorem Bu{kd ky}{f}{x y}(h:MB kd ky f x y id ph e H k=1):∃a b,aA x e=.int kd a/\aA y e=.int ky b/\gk id f a b (λr=>k (.int kd r) H)=1:=by unfold MB at h;rw[aq]at h;obtain⟨k1,a,ha,h1⟩:=dG h;rw[aq]at h1;obtain⟨k2,b,hb,h2⟩:=dG h1;obtain⟨h3,h4⟩:=aV h2;obtain⟨h5,h6⟩:=aV h4;simp_all
def nc:V->Option Nat|.bool true=>some 2|.bool false=>some 3|.ptr _ _=>some 11|.pj=>some 10|.slice _ _ _ _ _=>some 21|.aD=>some 20|.map _=>some 31|.uU=>some 30|.func _ _=>some 41|.qU=>some 40|.iface _ _=>some 51|.Fo=>some 50|_=>none
theorem Fp{x}{k}(h:fX id x k=1):∃c,nc x=some c/\k c=1:=by cases x<;>first|exact(aw h).elim|exact⟨_,rfl,h⟩|(rename_i b;cases b<;>exact⟨_,rfl,h⟩)
theorem UQ{kc}{neg}{x y}(h:UP kc neg x y id ph e H k=1):∃a b,nc (aA x e)=some a/\nc (aA y e)=some b/\a/10=kc/\b/10=kc/\(a=b->a%10≠1)/\k (.bool (if neg then !decide (a=b)else decide (a=b))) H=1:=by
 unfold UP at h;rw[aq]at h;obtain⟨a,h1,h2⟩:=Fp h;rw[aq]at h2;obtain⟨b,h3,h4⟩:=Fp h2;obtain⟨h5,h6⟩:=aV h4;obtain⟨h7,h8⟩:=aV h6;refine⟨a,b,h1,h3,cF h5,cF h7,?_⟩;rcases bT h8 with⟨h9,h10⟩|⟨h9,h10⟩
 .have e:=cF h9;subst e;rcases bT h10 with⟨_,h11⟩|⟨h11,h12⟩;.exact(aw h11).elim
  .rw[fL]at h11;have h11':=of_decide_eq_false h11;refine⟨λ_=>h11',?_⟩;rcases bT h12 with⟨h13,h14⟩|⟨h13,h14⟩<;>subst h13<;>simpa using h14
 .rw[fL]at h9;simp_all
theorem Sz{x}{a}(h:nc x=some a)(hk:a/10=1):(x=.pj/\a=10)\/∃b o,x=.ptr b o/\a=11:=by cases x<;>simp only[nc,Option.some.injEq,reduceCtorEq]at h<;>(simp)<;>first|exact YH ⟨rfl,rfl⟩|exact YD ⟨_,_,rfl,rfl⟩|omega|(rename_i q;cases q<;>simp only[nc,Option.some.injEq]at h<;>subst h<;>simp at hk)
theorem Fi{x}{a}(h:nc x=some a)(hk:a/10=2):(x=.aD/\a=20)\/∃b o l c s,x=.slice b o l c s/\a=21:=by cases x<;>simp only[nc,Option.some.injEq,reduceCtorEq]at h<;>(simp)<;>first|exact YH ⟨rfl,rfl⟩|exact YD ⟨_,_,_,_,_,rfl,rfl⟩|omega|(rename_i q;cases q<;>simp only[nc,Option.some.injEq]at h<;>subst h<;>simp at hk)
theorem Sy{x}{a}(h:nc x=some a)(hk:a/10=3):(x=.uU/\a=30)\/∃b,x=.map b/\a=31:=by cases x<;>simp only[nc,Option.some.injEq,reduceCtorEq]at h<;>(simp)<;>first|exact YH ⟨rfl,rfl⟩|exact YD ⟨_,rfl,rfl⟩|omega|(rename_i q;cases q<;>simp only[nc,Option.some.injEq]at h<;>subst h<;>simp at hk)
theorem KP{x}{a}(h:nc x=some a)(hk:a/10=4):(x=.qU/\a=40)\/∃f l,x=.func f l/\a=41:=by cases x<;>simp only[nc,Option.some.injEq,reduceCtorEq]at h<;>(simp)<;>first|exact YH ⟨rfl,rfl⟩|exact YD ⟨_,_,rfl,rfl⟩|omega|(rename_i q;cases q<;>simp only[nc,Option.some.injEq]at h<;>subst h<;>simp at hk)
theorem Fh{x}{a}(h:nc x=some a)(hk:a/10=5):(x=.Fo/\a=50)\/∃t v,x=.iface t v/\a=51:=by cases x<;>simp only[nc,Option.some.injEq,reduceCtorEq]at h<;>(simp)<;>first|exact YH ⟨rfl,rfl⟩|exact YD ⟨_,_,rfl,rfl⟩|omega|(rename_i q;cases q<;>simp only[nc,Option.some.injEq]at h<;>subst h<;>simp at hk)
theorem KO{x}{a}(h:nc x=some a)(hk:a/10=0):(x=.bool true/\a=2)\/(x=.bool false/\a=3):=by cases x<;>simp only[nc,Option.some.injEq,reduceCtorEq]at h<;>(simp)<;>first|omega|(rename_i q;cases q<;>simp only[nc,Option.some.injEq]at h<;>subst h<;>first|rfl|simp)
def Xs(P:Program)(kc:Nat)(t:TypeId):Prop:=(kc=0/\P.underlying t=some .bool)\/(kc=1/\∃d,P.underlying t=some (.pointer d))\/(kc=2/\∃d,P.underlying t=some (.slice d))\/(kc=3/\∃d d',P.underlying t=some (.map d d'))\/(kc=4/\∃d d' d'',P.underlying t=some (.func d d' d''))\/(kc=5/\∃d,P.underlying t=some (.interface d))
theorem UW{kc:Nat}{t:TypeId}{m:M}{x y:V}{cx cy:Value}{a b:Nat}{w:World}(hu:Xs P kc t)(hx:VR m x cx)(hy:VR m y cy)(ha:nc x=some a)(hb:nc y=some b)(hka:a/10=kc)(hkb:b/10=kc)(hab:a=b->a%10≠1):(Op.equal t cx cy).run P w=.ok (decide (a=b)) w:=by
 show(Op.equalIn (9999+1) t cx cy).run P w=_;generalize 9999=dd;rcases hu with⟨rfl,hu⟩|⟨rfl,d,hu⟩|⟨rfl,d,hu⟩|⟨rfl,d,d',hu⟩|⟨rfl,d,d',d'',hu⟩|⟨rfl,d,hu⟩;.rcases KO ha hka with⟨rfl,rfl⟩|⟨rfl,rfl⟩<;>rcases KO hb hkb with⟨rfl,rfl⟩|⟨rfl,rfl⟩<;>simp only[VR]at hx hy<;>subst hx hy<;>(simp only[Op.equalIn,Sem.run_bind,run_underlying hu,Result.andThen_ok];rfl)
 .rcases Sz ha hka with⟨rfl,rfl⟩|⟨p,q,rfl,rfl⟩<;>rcases Sz hb hkb with⟨rfl,rfl⟩|⟨p',q',rfl,rfl⟩<;>simp only[VR]at hx hy<;>first|exact absurd rfl (hab rfl)|skip
  .subst hx hy;(simp only[Op.equalIn,Sem.run_bind,run_underlying hu,Result.andThen_ok];rfl)
  .obtain⟨c,rfl,_⟩:=hy;subst hx;(simp only[Op.equalIn,Sem.run_bind,run_underlying hu,Result.andThen_ok];rfl)
  .obtain⟨c,rfl,_⟩:=hx;subst hy;(simp only[Op.equalIn,Sem.run_bind,run_underlying hu,Result.andThen_ok];rfl)
 .rcases Fi ha hka with⟨rfl,rfl⟩|⟨p,q,r,s,s1,rfl,rfl⟩<;>rcases Fi hb hkb with⟨rfl,rfl⟩|⟨p',q',r',s',s2,rfl,rfl⟩<;>simp only[VR]at hx hy<;>first|exact absurd rfl (hab rfl)|skip
  .subst hx hy;(simp only[Op.equalIn,Sem.run_bind,run_underlying hu,Result.andThen_ok];rfl)
  .obtain⟨c,cap,o',sp,rfl,_⟩:=hy;subst hx;(simp only[Op.equalIn,Sem.run_bind,run_underlying hu,Result.andThen_ok];rfl)
  .obtain⟨c,cap,o',sp,rfl,_⟩:=hx;subst hy;(simp only[Op.equalIn,Sem.run_bind,run_underlying hu,Result.andThen_ok];rfl)
 .rcases Sy ha hka with⟨rfl,rfl⟩|⟨p,rfl,rfl⟩<;>rcases Sy hb hkb with⟨rfl,rfl⟩|⟨p',rfl,rfl⟩<;>simp only[VR]at hx hy<;>first|exact absurd rfl (hab rfl)|skip
  .subst hx hy;(simp only[Op.equalIn,Sem.run_bind,run_underlying hu,Result.andThen_ok];rfl)
  .obtain⟨c,rfl,_⟩:=hy;subst hx;(simp only[Op.equalIn,Sem.run_bind,run_underlying hu,Result.andThen_ok];rfl)
  .obtain⟨c,rfl,_⟩:=hx;subst hy;(simp only[Op.equalIn,Sem.run_bind,run_underlying hu,Result.andThen_ok];rfl)
 .rcases KP ha hka with⟨rfl,rfl⟩|⟨p,q,rfl,rfl⟩<;>rcases KP hb hkb with⟨rfl,rfl⟩|⟨p',q',rfl,rfl⟩<;>simp only[VR]at hx hy<;>first|exact absurd rfl (hab rfl)|skip
  .subst hx hy;(simp only[Op.equalIn,Sem.run_bind,run_underlying hu,Result.andThen_ok];rfl)
  .obtain⟨c,rfl,_⟩:=hy;subst hx;(simp only[Op.equalIn,Sem.run_bind,run_underlying hu,Result.andThen_ok];rfl)
  .obtain⟨c,rfl,_⟩:=hx;subst hy;(simp only[Op.equalIn,Sem.run_bind,run_underlying hu,Result.andThen_ok];rfl)
 .rcases Fh ha hka with⟨rfl,rfl⟩|⟨p,q,rfl,rfl⟩<;>rcases Fh hb hkb with⟨rfl,rfl⟩|⟨p',q',rfl,rfl⟩<;>simp only[VR]at hx hy<;>first|exact absurd rfl (hab rfl)|skip
  .subst hx hy;(simp only[Op.equalIn,Sem.run_bind,run_underlying hu,Result.andThen_ok];rfl)
  .obtain⟨c,rfl,_⟩:=hy;subst hx;(simp only[Op.equalIn,Sem.run_bind,run_underlying hu,Result.andThen_ok];rfl)
  .obtain⟨c,rfl,_⟩:=hx;subst hy;(simp only[Op.equalIn,Sem.run_bind,run_underlying hu,Result.andThen_ok];rfl)
theorem SA{m}{x}{cx}{a}(hx:VR m x cx)(ha:nc x=some a):(∀l,cx≠.agg l)/\(cx=.nilIface->a/10=5):=by cases x<;>simp only[VR]at hx<;>first|(simp only[nc,reduceCtorEq]at ha;done)|(subst hx;refine⟨λ_=>nofun,λe=>?_⟩;first|rfl|(simp only[nc,Option.some.injEq]at ha;omega))|rfl|(obtain⟨_,hx,_⟩:=hx;subst hx;simp)|(obtain⟨_,_,_,_,hx,_⟩:=hx;simp_all)
theorem uW{op}{kc}{t}{m}{ox oy}{x y}{cx cy}{a b}{w}(hx:VR m x cx)(hy:VR m y cy)(ha:nc x=some a)(hb:nc y=some b)(hka:a/10=kc)(hkb:b/10=kc)(hc:kc=5->(∃v,ox=.const v)\/∃v,oy=.const v):(eqGuard op t ox oy cx cy).run P w=.ok () w:=by
 obtain⟨h1,h2⟩:=SA hx ha;unfold eqGuard;cases op<;>try rfl
 all_goals
  cases cx<;>try rfl
  case agg l=>simp_all
  case nilIface=>
   cases cy<;>try rfl
   rcases hc (hka.symm.trans (h2 rfl))with⟨v,rfl⟩|⟨v,rfl⟩;.rfl
   simp
theorem Al{x}{ar}{nt}{e}(h:aM nt x=some ar)(hi:isC ar=true){a}(hn:nc (aA ar e)=some a)(hk:a/10=5):∃v,x=.const v:=by
 unfold aM at h;split at h;.split at h<;>cases h;cases hi
 .simp
 .cases h;simp[aA,nc]at hn;omega
 simp_all
theorem mc{kc:Nat}{op:BinOp}{xt yt:TypeId}{x y:Operand}{x' y':Arg}(hop:o.op=.binOp op xt x y yt)(hx:aM nt x=some x')(hy:aM nt y=some y')(hu:Xs P kc xt)(hc:kc=5->isC x'=true\/isC y'=true)(h:aR (nB kc op x' y') id ph e H k=1):Good P nt o e H k:=by
 have mem:x∈o.op.operands/\y∈o.op.operands:=by simp[hop,Op.operands]
 have hnd:∀c,o.op≠.defer c:=by simp[hop]
 have key:∀neg:Bool,(op=if neg then .neq else .eql)->UP kc neg x' y' id ph e H k=1->Good P nt o e H k:=by
  intro neg hneg h';obtain⟨a,b,h1,h2,h3,h4,h5,h6⟩:=UQ h';refine⟨_,_,eW.bJ hnd λm w ac ho=>?_,h6⟩;have vx:=ho x mem.1 x' hx;have vy:=ho y mem.2 y' hy;have hc':kc=5->(∃v,x=.const v)\/∃v,y=.const v:=λe5=>(hc e5).imp (λhi=>Al hx hi h1 (h3.trans e5)) (λhi=>Al hy hi h2 (h4.trans e5));have hr:=UW (w:=w) hu vx vy h1 h2 h3 h4 h5;have hg:=uW (P:=P) (op:=op) (t:=xt) (w:=w) vx vy h1 h2 h3 h4 hc';refine⟨.bool (if neg then !decide (a=b)else decide (a=b)),?_,by simp only[VR]⟩;simp only[execOp,hop,Sem.run_bind,hg,Result.andThen_ok];have hb:(binOp op xt (ac.eval x) (ac.eval y)).run P w=.ok (.bool (if neg then !decide (a=b)else decide (a=b))) w:=by
   have hb':binOp op xt (ac.eval x) (ac.eval y)=if neg then(do pure (.bool (!(<-Op.equal xt (ac.eval x) (ac.eval y)))))else(do pure (.bool (<-Op.equal xt (ac.eval x) (ac.eval y)))):=by subst hneg;generalize ac.eval x=cx at vx;generalize ac.eval y=cy at vy;cases hq:aA x' e<;>rw[hq]at h1 vx<;>simp only[nc,Option.some.injEq,reduceCtorEq]at h1<;>simp only[VR]at vx<;>first|(subst vx;cases neg<;>cases cy<;>rfl)|(obtain⟨c1,vx,_⟩:=vx;subst vx;cases neg<;>cases cy<;>rfl)|(obtain⟨c1,c2,c3,c4,vx,_⟩:=vx;subst vx;cases neg<;>cases cy<;>rfl)
   rw[hb'];cases neg<;>simp[hr]
  rw[hb];rfl
 unfold nB at h;split at h;.exact key false (by simp) h
 .exact key true (by simp) h
 .exact(aw h).elim
end
end Go.Ev
end
section
namespace Go.Ev
open Go.RowKit
section
variable{P:Program}{nt:Nat}{o:Oper}{id:Nat}{ph:dm}{e:Env}{H:Heap}{k:K}
theorem abj{op}{xt}{x}(hop:o.op=.unOp op xt x)(h:aR (ai P nt o) id ph e H k=1):Good P nt o e H k:=by
 simp only[ai,hop]at h;have mem:x∈o.op.operands:=by simp[hop,Op.operands]
 have hnd:∀c,o.op≠.defer c:=by simp_all
 split at h
 .rename_i x' hx;have h':Rw x' id ph e H k=1:=h;unfold Rw at h';rw[aq]at h';obtain⟨b,hb,h1⟩:=mD h';have h2:k (.bool (!b)) H=1:=by rcases bT h1 with⟨h2,h3⟩|⟨h2,h3⟩<;>subst h2<;>exact h3
  refine⟨_,_,eW.bJ hnd λm w ac ho=>?_,h2⟩;have v:=ho x mem x' hx;rw[hb]at v;simp only[VR]at v;exact⟨.bool (!b),by simp[execOp,hop,v,Op.unary],by rfl⟩
 .rename_i x' hx;split at h;.rename_i kx hk;have h':MB (lI kx) (lI kx) (.sub (2^kx.bits)) (.c (.int (lI kx) 0)) x' id ph e H k=1:=h;obtain⟨a,b,ha,hb,h1⟩:=Bu h';simp only[aA,V.int.injEq,true_and]at ha;subst ha;obtain⟨r,h2,h3⟩:=Pe (P:=P) (t:=xt) (op:=.sub) rfl (YH ⟨rfl,rfl⟩) h1;refine⟨_,_,eW.bJ hnd λm w ac ho=>?_,h2⟩;have v:=ho x mem x' hx;rw[hb]at v;simp only[VR,dE]at v;obtain⟨h4,h5⟩:=h3 (xj kx) v.2.1;have h6:=h5 w;rw[toI_small kx 0 (by cases kx<;>decide)]at h6;simp only[binOp,ne_eq,not_true_eq_false,if_false]at h6;exact⟨.int kx (toI kx r),by simp only[execOp,hop,v.1,Op.unary,Sem.run_bind];simp_all,by simp only[VR,dE];simp_all⟩
  .exact(aw h).elim
 .rename_i x' hx;split at h
  .rename_i kx hk;have h':MB (lI kx) (lI kx) .Z6 (.c (.int (lI kx) (2^kx.bits-1))) x' id ph e H k=1:=h;obtain⟨a,b,ha,hb,h1⟩:=Bu h';simp only[aA,V.int.injEq,true_and]at ha;subst ha;obtain⟨r,h2,h3⟩:=Pe (P:=P) (t:=xt) (op:=.xor) rfl (YH ⟨rfl,rfl⟩) h1;refine⟨_,_,eW.bJ hnd λm w ac ho=>?_,h2⟩;have v:=ho x mem x' hx;rw[hb]at v;simp only[VR,dE]at v;obtain⟨h4,h5⟩:=h3 (by cases kx<;>decide) v.2.1;have h6:=h5 w;have h7:toI kx (2^kx.bits-1)=if kx.signed then-1 else kx.max:=by cases kx<;>decide
   simp only[binOp,ne_eq,not_true_eq_false,if_false]at h6;exact⟨.int kx (toI kx r),by simp only[execOp,hop,v.1,Op.unary,Sem.run_bind];simp_all,by simp only[VR,dE];simp_all⟩
  .exact(aw h).elim
 .exact(aw h).elim
theorem uX{t}{x}(hop:o.op=.makeInterface t x)(h:aR (ai P nt o) id ph e H k=1):Good P nt o e H k:=by
 simp only[ai,hop]at h;have mem:x∈o.op.operands:=by simp[hop,Op.operands]
 have hnd:∀c,o.op≠.defer c:=by simp_all
 split at h;.exact(aw h).elim
 .rename_i x' d hni hx hu;have h':aan t x' id ph e H k=1:=h;unfold aan at h';rw[aq]at h';refine⟨_,_,eW.bJ hnd λm w ac ho=>?_,h'⟩;have v:=ho x mem x' hx;refine⟨.iface t (ac.eval x),?_,by simp only[VR];simp_all⟩;simp only[execOp,hop,Instr.makeInterface,Sem.run_bind,run_underlying hu,Result.andThen_ok];rfl
 .exact(aw h).elim
theorem Cm{x}{xt t}{ok}(hop:o.op=.typeAssert x xt t ok)(h:aR (ai P nt o) id ph e H k=1):Good P nt o e H k:=by
 simp only[ai,hop]at h;have mem:x∈o.op.operands:=by simp[hop,Op.operands]
 have hnd:∀c,o.op≠.defer c:=by simp_all
 split at h;.exact(aw h).elim
 .rename_i x' d hni hx hu;have h':aat t x' id ph e H k=1:=h;unfold aat at h';rw[aq]at h';obtain⟨u,hv,h2⟩:=abu h';refine⟨_,_,eW.bJ hnd λm w ac ho=>?_,h2⟩;have v:=ho x mem x' hx;rw[hv]at v;obtain⟨cu,hc,hcu⟩:=v;refine⟨.tuple #[cu,.bool true],?_,by exact⟨_,rfl,by exact⟨_,_,rfl,hcu,_,_,rfl,by rfl,rfl⟩⟩⟩;simp only[execOp,hop,hc,Instr.typeAssert,Sem.run_bind,run_underlying hu,Result.andThen_ok];rfl
 .exact(aw h).elim
theorem jg{m}{ac:Act}:∀{l}{r},bV nt l=some r->(∀x∈l,∀ar,aM nt x=some ar->VR m (aA ar e) (ac.eval x))->bZ m (r.map (aA · e)) (l.map ac.eval)
 |[],r,h,_=>by simp only[bV,Option.some.injEq]at h;subst h;rfl|x::l,r,h,ho=>by
  simp only[bV]at h;split at h;.rename_i a r' h1 h2;cases h;exact⟨_,_,rfl,ho x (YM ..) a h1,jg h2 λy hy=>ho y (YI _ hy)⟩
  simp_all
theorem Ji{f}{first caps}(hop:o.op=.makeFunc (.func f) first caps)(h:aR (ai P nt o) id ph e H k=1):Good P nt o e H k:=by
 simp only[ai,hop]at h;have hnd:∀c,o.op≠.defer c:=by simp_all
 split at h
 .rename_i l hf hl;have h':Rz (2*f) l id ph e H k=1:=h;unfold Rz at h';rw[gZ]at h';refine⟨_,_,eW.bJ hnd λm w ac ho=>?_,h'⟩;have hf':first=#[]:=by simp_all
  subst hf';refine⟨.func (.func f) #[] (caps.map ac.eval),by simp[execOp,hop,Instr.makeFunc],?_⟩;simp only[VR];have:=jg hl λx hx=>ho x (by simp[hop,Op.operands];simp_all);simp_all
 .rename_i q qs hf hc;split at h
  .rename_i l hl;have h':Rz (2*f+1) l id ph e H k=1:=h;unfold Rz at h';rw[gZ]at h';refine⟨_,_,eW.bJ hnd λm w ac ho=>?_,h'⟩;have hcl:caps.toList=[]:=by cases hct:caps.toList with|nil=>rfl|cons y ys=>rw[hct]at hc;simp only[bV]at hc;split at hc<;>cases hc
   have hc':caps=#[]:=by simp_all
   subst hc';refine⟨.func (.func f) (first.map ac.eval) #[],by simp[execOp,hop,Instr.makeFunc],?_⟩;refine⟨first.map ac.eval,by simp[Nat.mul_add_div],?_⟩;rw[<-hf]at hl;have:=jg hl λx hx=>ho x (by simp[hop,Op.operands];simpa using hx);simp_all
  .exact(aw h).elim
 .exact(aw h).elim
theorem NR{x}{i}(hop:o.op=.extract x i)(h:aR (ai P nt o) id ph e H k=1):Good P nt o e H k:=by
 simp only[ai,hop]at h;have mem:x∈o.op.operands:=by simp[hop,Op.operands]
 have hnd:∀c,o.op≠.defer c:=by simp_all
 split at h
 .rename_i x' hx;have h':Rp x' i id ph e H k=1:=h;unfold Rp at h';rw[aq]at h';obtain⟨l,hl,h1⟩:=Xj h';obtain⟨v,hv,h2⟩:=tI h1;refine⟨_,_,eW.bJ hnd λm w ac ho=>?_,h2⟩;have vx:=ho x mem x' hx;rw[hl]at vx;obtain⟨cs,hcs,hr⟩:=vx;obtain⟨c,hc,hvr⟩:=hr.get hv;refine⟨c,?_,hvr⟩;have hc':cs[i]?=some c:=by simp_all
  simp[execOp,hop,hcs,Instr.extract,hc']
 .exact(aw h).elim
theorem FO{t}{x}{f}(hop:o.op=.fieldAddr t x f)(h:aR (ai P nt o) id ph e H k=1):Good P nt o e H k:=by
 simp only[ai,hop]at h;have mem:x∈o.op.operands:=by simp[hop,Op.operands]
 have hnd:∀c,o.op≠.defer c:=by simp_all
 split at h
 .rename_i x' fs hx hu;split at h
  .rename_i fd hfd;split at h
   .rename_i n hsz;have h':Rq fd.offset x' id ph e H k=1:=h;unfold Rq at h';rw[aq]at h';obtain⟨b,off,hb,h1⟩:=fP h';rw[ax]at h1;refine⟨_,_,eW.bJ hnd λm w ac ho=>?_,h1⟩;have vx:=ho x mem x' hx;rw[hb]at vx;obtain⟨c,hc,hm⟩:=vx;refine⟨.pointer (some ⟨c,off+fd.offset,none⟩),?_,by simp only[VR];simp_all⟩;simp only[qm,Yg]at hsz;obtain⟨ti,hti,hsz⟩:=hsz;have hs:(sizeOf fd.type).run P w=.ok (n+1) w:=by simp[sizeOf,typeInfo,hti,hsz]
    simp[execOp,hop,hc,Instr.fieldAt,run_underlying hu,hfd,Instr.sureAddr,fieldPlace,hs,Addr.add_lit]
   .exact(aw h).elim
  .exact(aw h).elim
 .exact(aw h).elim
theorem fY{t}{cs}{off}{l}{m}(hr:bZ m l cs.toList){w}:(∀n,lE P t=some true->qm P t=some n->off+n<=l.length->∃q:Array Value,(part t cs off).run P w=.ok (.agg q) w/\bZ m ((l.drop off).take n) q.toList)/\(∀v,lE P t=some false->l[off]?=some v->∃c,(part t cs off).run P w=.ok c w/\VR m v c):=by
 have hlen:=hr.length;constructor
 .intro n ha hs hle;have hag:(isAgg t).run P w=.ok true w:=by unfold lE at ha;split at ha<;>simp at ha;all_goals(rename_i hu;simp[isAgg,run_underlying hu])
  simp only[qm,Yg]at hs;obtain⟨ti,hti,hsz⟩:=hs;have hsz':(sizeOf t).run P w=.ok n w:=by simp[sizeOf,typeInfo,hti,hsz]
  refine⟨cs.extract off (off+n),by simp[part,hag,hsz'],?_⟩;refine bZ.pn ?_ λi v c h1 h2=>?_;.simp_all
  .rw[Yy]at h1;split at h1;.rw[WG]at h1;obtain⟨c',h3,h4⟩:=hr.get h1;simp_all
   simp_all
 .intro v ha hv;have hag:(isAgg t).run P w=.ok false w:=by unfold lE at ha;split at ha<;>simp at ha;rename_i d h1 h2 hu;simp only[isAgg,Sem.run_bind,run_underlying hu,Result.andThen_ok];rfl
  obtain⟨c,h3,h4⟩:=hr.get hv;rw[Yr]at h3;exact⟨c,by simp[part,hag,h3],h4⟩
theorem V5{t}{x}{f}(hop:o.op=.field t x f)(h:aR (ai P nt o) id ph e H k=1):Good P nt o e H k:=by
 simp only[ai,hop]at h;have mem:x∈o.op.operands:=by simp[hop,Op.operands]
 have hnd:∀c,o.op≠.defer c:=by simp_all
 split at h
 .rename_i x' fs hx hu;split at h
  .rename_i fd hfd;split at h;.rename_i n hag hsz;have h':Rs fd.offset n x' id ph e H k=1:=h;unfold Rs at h';rw[aq]at h';obtain⟨l,hl,h1⟩:=qe h';obtain⟨h2,h3⟩:=ma h1;obtain⟨h4,h5⟩:=kP h3;refine⟨_,_,eW.bJ hnd λm w ac ho=>?_,h5⟩;have vx:=ho x mem x' hx;rw[hl]at vx;obtain⟨cs,hc,hr⟩:=vx;obtain⟨q,hq,hqr⟩:=(fY (off:=fd.offset) hr (w:=w)).1 n hag hsz (by simp at h4;omega);exact⟨.agg q,by simp[execOp,hop,hc,Instr.field,run_underlying hu,hfd,asAgg,hq],by simp only[VR];simp_all⟩
   .rename_i n hag hsz;have h':Rr fd.offset x' id ph e H k=1:=h;unfold Rr at h';rw[aq]at h';obtain⟨l,hl,h1⟩:=qe h';obtain⟨v,h2,h3⟩:=tI h1;refine⟨_,_,eW.bJ hnd λm w ac ho=>?_,h3⟩;have vx:=ho x mem x' hx;rw[hl]at vx;obtain⟨cs,hc,hr⟩:=vx;obtain⟨q,hq,hqr⟩:=(fY hr (w:=w)).2 v hag h2;exact⟨q,by simp[execOp,hop,hc,Instr.field,run_underlying hu,hfd,asAgg,hq],hqr⟩
   .exact(aw h).elim
  .exact(aw h).elim
 .exact(aw h).elim
theorem BG{i'}{len}{c}(h:idx id i' e len c=1):∃n,c n=1/\n<len/\∀(m)(cv),VR m (aA i' e) cv->∃kd,cv=.int kd n:=by unfold idx at h;rw[aq]at h;obtain⟨kd,n,hn,h1⟩:=dG h;obtain⟨h2,h3⟩:=aV h1;obtain⟨h4,h5⟩:=aV h3;obtain⟨h6,h7⟩:=aV h5;refine⟨n,h7,eM h4,λm cv hv=>?_⟩;rw[hn]at hv;exact⟨oQ kd,by rw[hv.1,toI_64 (cw h2) hv.2.2 (eM h6) hv.2.1]⟩
theorem cJ{t}{n}(h:qm P t=some n)(w):(sizeOf t).run P w=.ok n w:=by simp only[qm,Yg]at h;obtain⟨ti,hti,hsz⟩:=h;simp[sizeOf,typeInfo,hti,hsz]
theorem FP{t:TypeId}{x i:Operand}(hop:o.op=.indexAddr t x i)(h:aR (ai P nt o) id ph e H k=1):Good P nt o e H k:=by
 simp only[ai,hop]at h;have mem:x∈o.op.operands/\i∈o.op.operands:=by simp[hop,Op.operands]
 have hnd:∀c,o.op≠.defer c:=by simp[hop]
 split at h
 .rename_i x' i' len el hx hi hu;split at h
  .rename_i s hs;have h':aaj len s x' i' id ph e H k=1:=h;unfold aaj at h';rw[aq]at h';obtain⟨b,off,hb,h1⟩:=fP h';obtain⟨n,h2,h3,h4⟩:=BG h1;rw[ax]at h2;refine⟨_,_,eW.bJ hnd λm w ac ho=>?_,h2⟩;have vx:=ho x mem.1 x' hx;obtain⟨kd,hki⟩:=h4 m _ (ho i mem.2 i' hi);rw[hb]at vx;simp only[VR]at vx;obtain⟨c,hc,hm⟩:=vx;refine⟨.pointer (some ⟨c,off+n*s,none⟩),?_,by simp only[VR];exact⟨c,rfl,hm⟩⟩;have hlt:(0:Int)<=(n:Int)/\(n:Int)<(len:Int):=by omega
   simp[execOp,hop,hc,hki,Instr.indexAt,asIntOf,run_underlying hu,Instr.sureAddr,cJ hs,h3,Addr.add_lit]
  .exact(aw h).elim
 .rename_i x' i' el hx hi hu;split at h
  .rename_i s hs;have h':aam s x' i' id ph e H k=1:=h;unfold aam at h';rw[aq]at h';obtain⟨b,off,len,cp,sz,hb,h1⟩:=Ok h';obtain⟨n,h2,h3,h4⟩:=BG h1;rw[ax]at h2;refine⟨_,_,eW.bJ hnd λm w ac ho=>?_,h2⟩;have vx:=ho x mem.1 x' hx;obtain⟨kd,hki⟩:=h4 m _ (ho i mem.2 i' hi);rw[hb]at vx;simp only[VR]at vx;obtain⟨c,cap,o',sp,hc,hm,hle,hcp,ho'⟩:=vx;obtain⟨rfl,rfl⟩:o'=off/\sp=none:=by
    rcases ho' with h|h;.exact h
    .omega
   refine⟨.pointer (some ⟨c,o'+n*s,none⟩),?_,by simp only[VR];exact⟨c,rfl,hm⟩⟩;simp[execOp,hop,hc,hki,Instr.indexAt,asIntOf,run_underlying hu,cJ hs,h3,Addr.add_lit]
  .exact(aw h).elim
 .exact(aw h).elim
theorem V6{t:TypeId}{x i:Operand}(hop:o.op=.index t x i)(h:aR (ai P nt o) id ph e H k=1):Good P nt o e H k:=by
 simp only[ai,hop]at h;have mem:x∈o.op.operands/\i∈o.op.operands:=by simp[hop,Op.operands]
 have hnd:∀c,o.op≠.defer c:=by simp[hop]
 split at h
 .rename_i x' i' hx hi hu;have h':aal x' i' id ph e H k=1:=h;unfold aal at h';rw[aq]at h';obtain⟨len,mm,hb,h1⟩:=ef h';obtain⟨n,h2,h3,h4⟩:=BG h1;rw[ax]at h2;refine⟨_,_,eW.bJ hnd λm w ac ho=>?_,h2⟩;have vx:=ho x mem.1 x' hx;obtain⟨kd,hki⟩:=h4 m _ (ho i mem.2 i' hi);rw[hb]at vx;simp only[VR]at vx;have hg:=rb len mm n h3;have e1:YB3 (WC mm (Ym 8 n)) 255=(UInt8.ofNat (mm/256^n%256)).toNat:=by show(mm>>>(8*n))&&&255=_;rw[WD,QU,show(255:Nat)=2^8-1by rfl,QT,toNat_byte]
  rw[e1];refine⟨.int .u8 (UInt8.ofNat (mm/256^n%256)).toNat,?_,vh m _⟩;have hlen:(aC len mm).length=len:=aL len mm;have hbg:(⟨(aC len mm).toArray⟩:ByteArray)[n]?=some (UInt8.ofNat (mm/256^n%256)):=by
   have hlt:n<(⟨(aC len mm).toArray⟩:ByteArray).size:=by simp[ByteArray.size,hlen,h3]
   rw[getElem?_pos (⟨(aC len mm).toArray⟩:ByteArray) n hlt];congr 1;have:(aC len mm)[n]'(by omega)=UInt8.ofNat (mm/256^n%256):=by rw[YA (by omega)]at hg;exact Option.some.inj hg
   rw[<-this];rfl
  simp[execOp,hop,vx.1,hki,Instr.index,asIntOf,run_underlying hu,hbg]
 .rename_i x' i' len el hx hi hu;split at h
  .rename_i s ag hs hag;have h':aak len s ag x' i' id ph e H k=1:=h;unfold aak at h';rw[aq]at h';obtain⟨l,hb,h1⟩:=qe h';obtain⟨n,h2,h3,h4⟩:=BG h1;rcases bT h2 with⟨h5,h6⟩|⟨h5,h6⟩;.subst h5;obtain⟨h7,h8⟩:=ma h6;obtain⟨h9,h10⟩:=kP h8;refine⟨_,_,eW.bJ hnd λm w ac ho=>?_,h10⟩;have vx:=ho x mem.1 x' hx;obtain⟨kd,hki⟩:=h4 m _ (ho i mem.2 i' hi);rw[hb]at vx;simp only[VR]at vx;obtain⟨cs,hc,hr⟩:=vx;have h7':n*s<=l.length:=h7;obtain⟨q,hq,hqr⟩:=(fY (P:=P) (t:=el) (off:=n*s) hr (w:=w)).1 s hag hs (by have:s<=(l.drop (n*s)).length:=h9;simp at this;omega);exact⟨.agg q,by simp[execOp,hop,hc,hki,Instr.index,asIntOf,run_underlying hu,cJ hs,h3,hq],by simp only[VR];exact⟨q,rfl,hqr⟩⟩
   .subst h5;obtain⟨v,h7,h8⟩:=tI h6;refine⟨_,_,eW.bJ hnd λm w ac ho=>?_,h8⟩;have vx:=ho x mem.1 x' hx;obtain⟨kd,hki⟩:=h4 m _ (ho i mem.2 i' hi);rw[hb]at vx;simp only[VR]at vx;obtain⟨cs,hc,hr⟩:=vx;obtain⟨q,hq,hqr⟩:=(fY (P:=P) (t:=el) (off:=n*s) hr (w:=w)).2 v hag h7;exact⟨q,by simp[execOp,hop,hc,hki,Instr.index,asIntOf,run_underlying hu,cJ hs,h3,hq],hqr⟩
  .exact(aw h).elim
 .exact(aw h).elim
end
end Go.Ev
end
section
namespace Go.Ev
open Go.RowKit
section
variable{P:Program}{nt:Nat}{o:Oper}{id:Nat}{ph:dm}{e:Env}{H:Heap}{k:K}
def ab5(P:Program)(c:Nat)(a b:V)(r:Bool):Prop:=∀(m:M)(cx cy:Value),VR m a cx->VR m b cy->∀(dd:Nat)(t:TypeId)(w:World),(c=0->P.underlying t=some .bool)->(c=1->∃q,P.underlying t=some (.int q))->(2<=c->P.underlying t=some .string)->(Op.equalIn (dd+1) t cx cy).run P w=.ok r w
theorem Nh{c}{x y}{k}(h:IC id c x y k=1):∃r,k r=1/\ab5 P c x y r:=by match c,h with
 |0,h=>have h':eK id x (λa=>eK id y λb=>aI a (k b) (aI b (k false) (k true)))=1:=h;obtain⟨a,rfl,h1⟩:=mD h';obtain⟨b,rfl,h2⟩:=mD h1;refine⟨a==b,by cases a<;>cases b<;>exact h2,λm cx cy vx vy dd t w h0 _ _=>?_⟩;subst vx vy;exact run_equalIn_bool' w dd t a b (h0 rfl)|1,h=>
  have h':cB id x (λk1 a=>cB id y λk2 b=>aI (YN k1 k2) (k (YN a b)) (no _))=1:=h;obtain⟨k1,a,rfl,h1⟩:=dG h';obtain⟨k2,b,rfl,h2⟩:=dG h1;obtain⟨h3,h4⟩:=aV h2;have:=cF h3;subst this;refine⟨_,h4,λm cx cy vx vy dd t w _ h1 _=>?_⟩;obtain⟨q,hq⟩:=h1 rfl;rw[vx.1,vy.1,run_equalIn_int w dd t _ q _ _ hq,fL];by_cases hab:a=b;.simp_all
  .have:=λe=>hab (toI_inj _ vx.2.1 vy.2.1 e);simp_all|c+2,h=>
  have h':dU id x (λl1 a=>dU id y λl2 b=>aI (YN l1 l2) (k (YN a b)) (k false))=1:=h;obtain⟨l1,a,rfl,h1⟩:=ef h';obtain⟨l2,b,rfl,h2⟩:=ef h1;have hf:k (decide (l1=l2)&&decide (a=b))=1:=by
   rcases bT h2 with⟨h3,h4⟩|⟨h3,h4⟩;.rw[fL]at h3 h4;simp_all
   .rw[fL]at h3;simp_all
  refine⟨_,hf,λm cx cy vx vy dd t w _ _ h2=>?_⟩;rw[vx.1,vy.1,run_equalIn_string w dd t _ _ (h2 (by omega))];congr 1;rw[ByteArray.toList_eq,ByteArray.toList_eq];by_cases hl:l1=l2
  .subst hl;by_cases hab:a=b;.simp_all
   .simp only[hab,decide_false,Bool.and_false,beq_eq_false_iff_ne,ne_eq];intro e;exact hab (rf vx.2 vy.2 (by omega))
  .simp only[hl,decide_false,QB,beq_eq_false_iff_ne,ne_eq];intro e;have:=congrArg Wy e;simp[aL]at this;omega
def Lh(P:Program):List Nat->List V->List V->Bool->Prop|[],_,_,b=>b=true|c::cls,l,m,b=>∃a l' a' m' r,l=a::l'/\m=a'::m'/\ab5 P c a a' r/\(r=true->Lh P cls l' m' b)/\(r=false->b=false)
theorem Kz:∀{cls}{l m}{k},gj id cls l m k=1->∃b,k b=1/\Lh P cls l m b|[],l,m,k,h=>⟨true,h,rfl⟩|c::cls,[],m,k,h=>(aw h).elim|c::cls,a::l,[],k,h=>(aw h).elim|c::cls,a::l,a'::m,k,h=>by have h':=h;obtain⟨r,h1,h2⟩:=Nh h';cases r with|true=>obtain⟨b,h3,h4⟩:=Kz (show gj id cls l m k=1from h1);exact⟨b,h3,a,l,a',m,true,rfl,rfl,h2,λ_=>h4,λh=>(by cases h)⟩|false=>exact⟨false,h1,a,l,a',m,false,rfl,rfl,h2,λh=>(by cases h),λ_=>rfl⟩
theorem Lh.split:∀{c r:List Nat}{l m:List V}{b:Bool},Lh P (c++r) l m b->∃b1,Lh P c (l.take c.length) (m.take c.length) b1/\(b1=true->Lh P r (l.drop c.length) (m.drop c.length) b)/\(b1=false->b=false)|[],r,l,m,b,h=>⟨true,rfl,λ_=>by simpa using h,λh=>(by cases h)⟩|c::cs,r,l,m,b,h=>by obtain⟨a,l',a',m',q,rfl,rfl,h1,h2,h3⟩:=h;cases q with|true=>obtain⟨b1,h4,h5,h6⟩:=Lh.split (h2 rfl);exact⟨b1,⟨a,_,a',_,true,rfl,rfl,h1,λ_=>h4,λh=>(by cases h)⟩,λe=>by simpa using h5 e,h6⟩|false=>exact⟨false,⟨a,_,a',_,false,rfl,rfl,h1,λh=>(by cases h),λ_=>rfl⟩,λh=>(by cases h),λ_=>h3 rfl⟩
theorem tc{t}{d}{c}(h:uN P (d+1) t=some c):(lE P t=some false/\∃q,c=[q]/\(q=0->P.underlying t=some .bool)/\(q=1->∃kd,P.underlying t=some (.int kd))/\(2<=q->P.underlying t=some .string))\/(lE P t=some true/\P.underlying t=some (.struct (P.fieldsOf t))/\P.stoodInHeld t=false/\uc P (uN P d) (P.fieldsOf t).toList 0=some c):=by
 simp only[uN]at h;split at h;.rename_i hu;cases h;exact YH ⟨by simp[lE,hu],0,rfl,λ_=>hu,λh=>(by omega),λh=>(by omega)⟩
 .rename_i q hu;cases h;exact YH ⟨by simp[lE,hu],1,rfl,λh=>(by omega),λ_=>⟨q,hu⟩,λh=>(by omega)⟩
 .rename_i hu;cases h;exact YH ⟨by simp[lE,hu],2,rfl,λh=>(by omega),λh=>(by omega),λ_=>hu⟩
 .rename_i fs hu;split at h;.cases h
  .have hf:P.fieldsOf t=fs:=by simp[Program.fieldsOf,hu]
   exact YD ⟨by simp[lE,hu],by simp_all,by simp_all,by simp_all⟩
 simp_all
theorem tA{m:M}{w:World}:∀(d:Nat)(t:TypeId)(c:List Nat),uN P d t=some c->∀(dd:Nat),d<=dd->∀(cx cy:Value)(l l':List V)(b:Bool),Lh P c l l' b->l.length=c.length->l'.length=c.length->((lE P t=some false->∃v v':V,l=[v]/\l'=[v']/\VR m v cx/\VR m v' cy)/\(lE P t=some true->∃xs ys,cx=.agg xs/\cy=.agg ys/\bZ m l xs.toList/\bZ m l' ys.toList))->(Op.equalIn dd t cx cy).run P w=.ok b w
 |0,t,c,h,_,_,_,_,_,_,_,_,_,_,_=>by simp[uN]at h|d+1,t,c,h,0,hdd,_,_,_,_,_,_,_,_,_=>by omega|d+1,t,c,h,dd+1,hdd,cx,cy,l,l',b,heq,hl1,hl2,hv=>by
  rcases tc h with⟨ha,q,rfl,h0,h1,h2⟩|⟨ha,hu,hs,hf⟩;.obtain⟨v,v',rfl,rfl,v1,v2⟩:=hv.1 ha;obtain⟨a,r1,a',r2,r,e1,e2,hl,g1,g2⟩:=heq;cases e1;cases e2;have hr:=hl m cx cy v1 v2 dd t w h0 h1 h2;cases r with|true=>have:b=true:=g1 rfl;subst this;exact hr|false=>rw[g2 rfl];exact hr
  .obtain⟨xs,ys,rfl,rfl,v1,v2⟩:=hv.2 ha;rw[run_equalIn_struct w dd t xs ys hu hs];clear h ha hu hs hv;generalize(P.fieldsOf t).toList=fs at hf;have key:∀(fs:List Field)(off:Nat)(c:List Nat)(b:Bool),uc P (uN P d) fs off=some c->Lh P c (l.drop off) (l'.drop off) b->l.length=off+c.length->l'.length=off+c.length->(Op.eqFields dd xs ys fs).run P w=.ok b w:=by intro fs;induction fs with|nil=>intro off c b hc he _ _;simp only[uc,Option.some.injEq]at hc;subst hc;have:b=true:=he;subst this;simp[Op.eqFields]|cons f fs ih=>
     intro off c b hc he hle hle';simp only[uc]at hc;split at hc;.cases hc
     .rename_i hn;split at hc
      .rename_i cf s r h1 h2 h3;split at hc
       .rename_i h4;cases hc;rw[Bool.and_eq_true]at h4;have hoff:f.offset=off:=by simpa using h4.1
        have hsz:s=cf.length:=by simpa using h4.2
        rw[h2]at h3;simp only[YU]at h3;obtain⟨b1,g1,g2,g3⟩:=Lh.split he;have hn':f.name≠ "_":=by simpa using hn
        have hd:∃d',d=d'+1:=by cases d with|zero=>simp[uN]at h1|succ d'=>exact⟨d',rfl⟩
        obtain⟨d',rfl⟩:=hd;have hpart:∃p p',(part f.type xs f.offset).run P w=.ok p w/\(part f.type ys f.offset).run P w=.ok p' w/\(Op.equalIn dd f.type p p').run P w=.ok b1 w:=by
         rw[hoff];rcases tc h1 with⟨ha,q,rfl,_⟩|⟨ha,_⟩
         .have g1':=g1;obtain⟨a,r1,a',r2,rr,e1,e2,_⟩:=g1';have e1':l[off]?=some a:=by have:=congrArg (λz=>z[0]?) e1;simpa using this
          have e2':l'[off]?=some a':=by have:=congrArg (λz=>z[0]?) e2;simpa using this
          obtain⟨p,q1,q2⟩:=(fY (P:=P) (t:=f.type) (off:=off) v1 (w:=w)).2 a ha e1';obtain⟨p',q3,q4⟩:=(fY (P:=P) (t:=f.type) (off:=off) v2 (w:=w)).2 a' ha e2';have hone:∀(z:List V)(x:V)(r:List V),(z.drop off).take 1=x::r->(z.drop off).take 1=[x]:=λz x r e=>by
           have hl:=congrArg Wy e;simp only[Yv,YG]at hl;have:r=[]:=by cases r with|nil=>rfl|cons=>simp at hl;omega
           rw[e,this]
          exact⟨p,p',q1,q3,tA (d'+1) f.type _ h1 dd (by omega) p p' _ _ b1 g1 ((congrArg Wy (hone _ _ _ e1)).trans rfl) ((congrArg Wy (hone _ _ _ e2)).trans rfl) ⟨λ_=>⟨a,a',hone _ _ _ e1,hone _ _ _ e2,q2,q4⟩,λh=>(by rw[ha]at h;cases h)⟩⟩
         .rw[YB]at hle hle';obtain⟨p,q1,q2⟩:=(fY (P:=P) (t:=f.type) (off:=off) v1 (w:=w)).1 s ha h2 (by omega);obtain⟨p',q3,q4⟩:=(fY (P:=P) (t:=f.type) (off:=off) v2 (w:=w)).1 s ha h2 (by omega);rw[hsz]at q2 q4;exact⟨_,_,q1,q3,tA (d'+1) f.type _ h1 dd (by omega) _ _ _ _ b1 g1 (by rw[Yv,WK];omega) (by rw[Yv,WK];omega) ⟨λh=>(by rw[ha]at h;cases h),λ_=>⟨_,_,rfl,rfl,q2,q4⟩⟩⟩
        obtain⟨p,p',q1,q2,q3⟩:=hpart;simp only[Op.eqFields,hn',ne_eq,not_false_eq_true,if_true,Sem.run_bind,q1,q2,q3,Result.andThen_ok];cases b1 with|true=>simp only[Bool.not_true,YT,if_false];rw[YB]at hle hle';refine ih _ r b h3 ?_ (by omega) (by omega);have:=g2 rfl;rw[Qf,Qf]at this;rw[hsz];exact this|false=>rw[g3 rfl];simp
       .cases hc
      .cases hc
   exact key fs 0 c b hf (by simpa using heq) (by omega) (by omega)
theorem xr:∀l:List Nat,Ar l=l.length|[]=>rfl|a::l=>by show WN (Ar l)=_;rw[xr l];rfl
theorem vX{op}{xt yt}{x y}{x' y'}{c}(hop:o.op=.binOp op xt x y yt)(hx:aM nt x=some x')(hy:aM nt y=some y')(hrun:∀(m)(w)(xs ys)(l l')(b),Lh P c l l' b->l.length=c.length->l'.length=c.length->bZ m l xs.toList->bZ m l' ys.toList->(Op.equalIn 10000 xt (.agg xs) (.agg ys)).run P w=.ok b w)(h:aR (jf P op xt c x' y') id ph e H k=1):Good P nt o e H k:=by
 have mem:x∈o.op.operands/\y∈o.op.operands:=by simp[hop,Op.operands]
 have hnd:∀c,o.op≠.defer c:=by simp_all
 unfold jf at h;split at h;.exact(aw h).elim
 rename_i hg;have hg':P.eqGuardType P.depth xt=false:=by simp_all
 have key:∀neg,(op=if neg then .neq else .eql)->HY c neg x' y' id ph e H k=1->Good P nt o e H k:=by
  intro neg hneg h';unfold HY at h';rw[aq]at h';obtain⟨l,hl,h1⟩:=qe h';rw[aq]at h1;obtain⟨l',hl',h2⟩:=qe h1;obtain⟨h3,h4⟩:=aV h2;obtain⟨h5,h6⟩:=aV h4;have e1:=cF h3;have e2:=cF h5;rw[jO,xr]at e1 e2;obtain⟨b,h7,h8⟩:=Kz h6;have h9:k (.bool (if neg then !b else b)) H=1:=by
   rcases bT h7 with⟨rfl,h10⟩|⟨rfl,h10⟩;.rcases bT h10 with⟨rfl,h11⟩|⟨rfl,h11⟩<;>exact h11
   simp_all
  refine⟨_,_,eW.bJ hnd λm w ac ho=>?_,h9⟩;have vx:=ho x mem.1 x' hx;have vy:=ho y mem.2 y' hy;rw[hl]at vx;rw[hl']at vy;obtain⟨xs,hcx,v1⟩:=vx;obtain⟨ys,hcy,v2⟩:=vy;have hr:=hrun m w xs ys l l' b h8 e1 e2 v1 v2;refine⟨.bool (if neg then !b else b),?_,by rfl⟩;have hgr:=run_eqGuard_agg w op xt x y xs ys hg';simp only[execOp,hop,hcx,hcy,Sem.run_bind,hgr,Result.andThen_ok];cases neg with|true=>have:=run_neq_struct (P:=P) w xt xs ys;simp_all|false=>have:=run_eql_struct (P:=P) w xt xs ys;simp_all
 split at h;.exact key false (by simp) h
 .exact key true (by simp) h
 .exact(aw h).elim
theorem Hj{op}{xt yt}{x y}{x' y'}{fs}(hop:o.op=.binOp op xt x y yt)(hx:aM nt x=some x')(hy:aM nt y=some y')(hu:P.underlying xt=some (.struct fs))(h:aR (l5 P op xt x' y') id ph e H k=1):Good P nt o e H k:=by
 unfold l5 at h;split at h;rotate_left;.exact(aw h).elim
 rename_i c hc;exact vX hop hx hy (λm w xs ys l l' b h8 e1 e2 v1 v2=>tA 4 xt c hc 10000 (by omega) (.agg xs) (.agg ys) l l' b h8 e1 e2 ⟨λh=>by simp[lE,hu]at h,λ_=>⟨xs,ys,rfl,rfl,v1,v2⟩⟩) h
theorem MJ{xt el}{n q}(hu:P.underlying xt=some (.array n el))(hc:uN P 1 el=some [q])(hs:qm P el=some 1)(d)(m)(w)(xs ys)(l l')(b)(h:Lh P (YZ n q) l l' b)(hv:bZ m l xs.toList)(hv':bZ m l' ys.toList):(Op.equalIn (d+2) xt (.agg xs) (.agg ys)).run P w=.ok b w:=by
 rcases tc hc with⟨ha,q',he,h0,h1,h2⟩|⟨_,_,_,hf⟩
 .cases he;obtain⟨i,hi,hsz⟩:=Yg.1 hs;have hcell:P.cellsOf el=1:=by simp[Program.cellsOf,hi,hsz]
  rw[run_equalIn_array w (d+1) xs ys hu hi,hcell,List.range_eq_range'];have key:∀(r j)(b),Lh P (YZ r q) (l.drop j) (l'.drop j) b->(Op.eqItems (d+1) el 1 xs ys (List.range' j r)).run P w=.ok b w:=by intro r;induction r with|zero=>intro j b hb;have:=hb;subst this;rfl|succ r ih=>
    intro j b hb;obtain⟨a,l1,a',l1',rr,e1,e2,hl,g1,g2⟩:=hb;have ea:=by have:=congrArg (λz=>z[0]?) e1;simpa using this
    have ea':=by have:=congrArg (λz=>z[0]?) e2;simpa using this
    have et:l.drop (j+1)=l1:=by have:=congrArg (List.drop 1) e1;rw[Qf]at this;simp_all
    have et':l'.drop (j+1)=l1':=by have:=congrArg (List.drop 1) e2;rw[Qf]at this;simp_all
    obtain⟨p,q1,q2⟩:=(fY hv (w:=w)).2 a ha ea;obtain⟨p',q3,q4⟩:=(fY hv' (w:=w)).2 a' ha ea';have q5:=hl m p p' q2 q4 d el w h0 h1 h2;rw[List.range'_succ];simp only[Op.eqItems,Wb,Sem.run_bind,q1,q3,q5,Result.andThen_ok];cases rr with|true=>exact ih (j+1) b (by simp_all)|false=>simp_all
  exact key n 0 b (by simp_all)
 .revert hf;generalize(P.fieldsOf el).toList=fs;intro hf;cases fs with|nil=>simp[uc]at hf|cons f fs=>
   simp only[uc]at hf;split at hf;.cases hf
   .simp[uN]at hf
theorem Ho{op}{xt yt el}{n}{x y}{x' y'}(hop:o.op=.binOp op xt x y yt)(hx:aM nt x=some x')(hy:aM nt y=some y')(hu:P.underlying xt=some (.array n el))(h:aR (l7 P op xt n el x' y') id ph e H k=1):Good P nt o e H k:=by
 unfold l7 at h;split at h;.rename_i q hc hs;exact vX hop hx hy (λm w xs ys l l' b h8 e1 e2 v1 v2=>MJ hu hc hs 9998 m w xs ys l l' b h8 v1 v2) h
 .exact(aw h).elim
theorem VZ{op:BinOp}{xt yt:TypeId}{x y:Operand}(hop:o.op=.binOp op xt x y yt)(h:aR (ai P nt o) id ph e H k=1):Good P nt o e H k:=by
 simp only[ai,hop]at h;have mem:x∈o.op.operands/\y∈o.op.operands:=by simp[hop,Op.operands]
 split at h;rotate_left;.exact(aw h).elim
 rename_i x' y' hx hy;have hnd:∀c,o.op≠.defer c:=by simp[hop]
 have hex:∀(ac:Act)(w:World),(execOp ac.eval o).run P w=((do eqGuard op xt x y (ac.eval x) (ac.eval y);binOp op xt (ac.eval x) (ac.eval y):Sem Value).run P w).andThen λv w'=>.ok (.value v) w':=by intro ac w;simp only[execOp,hop,Sem.run_bind,Sem.run_pure]
 unfold pL at h;split at h
 .rename_i kx hu;split at h
  .rename_i f hf;have h':aai (lI kx) f x' y' id ph e H k=1:=h;unfold aai at h';rw[aq]at h';obtain⟨k1,a,ha,h1⟩:=dG h';rw[aq]at h1;obtain⟨k2,b,hb,h2⟩:=dG h1;obtain⟨h3,h4⟩:=aV h2;obtain⟨h5,h6⟩:=aV h4;have e3:=cF h3;have e5:=cF h5;subst e3 e5;have h7:k (.bool (dQ f a b)) H=1:=by rcases bT h6 with⟨h8,h9⟩|⟨h8,h9⟩<;>rw[h8]<;>exact h9
   refine⟨_,_,eW.bJ hnd λm w ac ho=>?_,h7⟩;have vx:=ho x mem.1 x' hx;have vy:=ho y mem.2 y' hy;rw[ha]at vx;rw[hb]at vy;simp only[VR,dE]at vx vy;refine⟨.bool (dQ f a b),?_,by simp only[VR]⟩;rw[hex,vx.1,vy.1,Sem.run_bind,nI];simp only[Result.andThen_ok,adE hf vx.2.1 vy.2.1]
  .split at h
   .rename_i f hf;have key:∀ky:IntKind,((sc op=false/\ky=kx)\/(sc op=true/\(ky.signed=true->ky.bits=64)))->MB (lI kx) (lI ky) f x' y' id ph e H k=1->Good P nt o e H k:=by intro ky hky h';obtain⟨a,b,ha,hb,h1⟩:=Bu h';obtain⟨r,h2,h3⟩:=Pe (P:=P) (t:=xt) (op:=op) (k:=kx) (ky:=ky) hf hky h1;refine⟨_,_,eW.bJ hnd λm w ac ho=>?_,h2⟩;have vx:=ho x mem.1 x' hx;have vy:=ho y mem.2 y' hy;rw[ha]at vx;rw[hb]at vy;simp only[VR,dE]at vx vy;obtain⟨h4,h5⟩:=h3 vx.2.1 vy.2.1;refine⟨.int kx (toI kx r),?_,by simp only[VR,dE];exact⟨trivial,h4,xk kx⟩⟩;rw[hex,vx.1,vy.1,Sem.run_bind,nI];simp only[Result.andThen_ok,h5 w]
    split at h
    .rename_i hs;split at h
     .rename_i ky hky;split at h;.rename_i hok;exact key ky (YD ⟨hs,λhsg=>by simpa[aeP,hsg]using hok⟩) h
      .exact(aw h).elim
     .exact(aw h).elim
    .rename_i hs;exact key kx (YH ⟨by simpa using hs,rfl⟩) h
   .exact(aw h).elim
 .have strs:∀(m:M)(ac:Act),OR m nt e ac o->∀l1 n1 l2 n2,aA x' e=.str l1 n1->aA y' e=.str l2 n2->ac.eval x=.string ⟨(aC l1 n1).toArray⟩/\n1<256^l1/\ac.eval y=.string ⟨(aC l2 n2).toArray⟩/\n2<256^l2:=by intro m ac ho l1 n1 l2 n2 e1 e2;have vx:=ho x mem.1 x' hx;have vy:=ho y mem.2 y' hy;rw[e1]at vx;rw[e2]at vy;simp only[VR]at vx vy;exact⟨vx.1,vx.2,vy.1,vy.2⟩
  have cmp:∀neg:Bool,(op=if neg then .neq else .eql)->RB neg x' y' id ph e H k=1->Good P nt o e H k:=by
   intro neg hneg h';unfold RB at h';rw[aq]at h';obtain⟨l1,n1,h1,h2⟩:=ef h';rw[aq]at h2;obtain⟨l2,n2,h3,h4⟩:=ef h2;have h5:k (.bool (if neg then !(decide (l1=l2)&&YN n1 n2)else(decide (l1=l2)&&YN n1 n2))) H=1:=by
    rcases bT h4 with⟨h5,h6⟩|⟨h5,h6⟩;.have:=cF h5;subst this;rcases bT h6 with⟨h7,h8⟩|⟨h7,h8⟩<;>rw[h7]<;>cases neg<;>simp<;>exact h8
    .rw[fL]at h5;rw[h5];cases neg<;>simp<;>exact h6
   refine⟨_,_,eW.bJ hnd λm w ac ho=>?_,h5⟩;obtain⟨v1,v2,v3,v4⟩:=strs m ac ho l1 n1 l2 n2 h1 h3;refine⟨.bool (if neg then !(decide (l1=l2)&&YN n1 n2)else(decide (l1=l2)&&YN n1 n2)),?_,by simp only[VR]⟩;rw[hex,v1,v3,Sem.run_bind,nJ];have hq:((⟨(aC l1 n1).toArray⟩:ByteArray).toList==(⟨(aC l2 n2).toArray⟩:ByteArray).toList)=(decide (l1=l2)&&YN n1 n2):=by
    by_cases hl:l1=l2;.subst hl;rw[abo v2 v4];simp
    .rw[decide_eq_false hl,QB];simp only[beq_eq_false_iff_ne,ne_eq,ByteArray.toList_eq];intro he;have:=congrArg Wy he;simp[aL]at this;exact hl this
   subst hneg;cases neg;.simp only[Result.andThen_ok,YT,if_false,binOp,Op.stringOp,hq,Sem.run_pure]
   .simp only[Result.andThen_ok,if_true,binOp,Op.stringOp,hq,Sem.run_pure]
  split at h
  .have h':Ec x' y' id ph e H k=1:=h;unfold Ec at h';rw[aq]at h';obtain⟨l1,n1,h1,h2⟩:=ef h';rw[aq]at h2;obtain⟨l2,n2,h3,h4⟩:=ef h2;rw[ax]at h4;obtain⟨h5,h6⟩:=aV h4;rw[ax]at h6;refine⟨_,_,eW.bJ hnd λm w ac ho=>?_,h6⟩;obtain⟨v1,v2,v3,v4⟩:=strs m ac ho l1 n1 l2 n2 h1 h3;have hlt:l1+l2<9223372036854775808:=eM h5;have e1:Yf n1 (Yt n2 (Ym 8 l1))=n1+256^l1*n2:=by show n1+n2<<<(8*l1)=_;rw[Qr,QU,Wq]
   have hbig:¬((((l1+l2:Nat):Int))>IntKind.i64.max):=by simp[IntKind.max,IntKind.signed,IntKind.bits];omega
   refine⟨.string ⟨(aC (l1+l2) (n1+256^l1*n2)).toArray⟩,?_,?_⟩
   .rw[hex,v1,v3,Sem.run_bind,nJ];have hs1:(⟨(aC l1 n1).toArray⟩:ByteArray).size=l1:=by simp[ByteArray.size,aL]
    have hs2:(⟨(aC l2 n2).toArray⟩:ByteArray).size=l2:=by simp[ByteArray.size,aL]
    have happ:(⟨(aC l1 n1).toArray⟩:ByteArray)++(⟨(aC l2 n2).toArray⟩:ByteArray)=⟨(aC (l1+l2) (n1+256^l1*n2)).toArray⟩:=by apply Go.WideShapes.bytes_inj;rw[fi _ _ _ _ v2];simp[ByteArray.data_append]
    simp only[Result.andThen_ok,binOp,Op.stringOp,hs1,hs2,if_neg hbig,happ,Sem.run_pure]
   .rw[e1];simp only[VR];refine⟨rfl,?_⟩;show n1+256^l1*n2<256^(l1+l2);rw[YG1];calc n1+256^l1*n2<256^l1+256^l1*n2:=by omega
     _=256^l1*(n2+1):=by rw[YM4,Wb,YG4]
     _<=256^l1*256^l2:=YB1 _ v4
  .exact cmp false (by simp) h
  .exact cmp true (by simp) h
  .exact(aw h).elim
 .rename_i hu;exact mc hop hx hy (YH ⟨rfl,hu⟩) (λe5=>by cases e5) h
 .rename_i hu;exact mc hop hx hy (YD (YH ⟨rfl,_,hu⟩)) (λe5=>by cases e5) h
 .rename_i hu;exact mc hop hx hy (YD (YD (YH ⟨rfl,_,hu⟩))) (λe5=>by cases e5) h
 .rename_i hu;exact mc hop hx hy (YD (YD (YD (YH ⟨rfl,_,_,hu⟩)))) (λe5=>by cases e5) h
 .rename_i hu;exact mc hop hx hy (YD (YD (YD (YD (YH ⟨rfl,_,_,_,hu⟩))))) (λe5=>by cases e5) h
 .rename_i hu;split at h;.rename_i hi;exact mc hop hx hy (YD (YD (YD (YD (YD ⟨rfl,_,hu⟩))))) (λ_=>by simpa using hi) h
  .exact(aw h).elim
 .rename_i fs hu;exact Hj hop hx hy hu h
 .rename_i n el hu;exact Ho hop hx hy hu h
 .exact(aw h).elim
 .exact(aw h).elim
end
end Go.Ev
end
