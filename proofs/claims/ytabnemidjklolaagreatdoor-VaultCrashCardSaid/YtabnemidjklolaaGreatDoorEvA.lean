/- EvA: a part of the evaluator,of its logic,or of the laws' walk in it. -/
import Derived.Below
import Derived.Calls
import Derived.CallsIn
import Derived.OrdersIn
import Derived.RangeFuncRecord
import Derived.Orders
import Derived.Laws.Sem
import Derived.Laws.Entries
import Derived.KernelRfl
import Derived.Laws.Cells
import Derived.TacticsIn
import Derived.Lib.Strings
import Derived.Laws.Strings
import Derived.WideShapes
import Derived.Laws.StructEq
import Derived.ChangeKeysEq
open List renaming getElem?_eq_getElem→YA,length_append→YB,length_cons→YH,mem_cons_of_mem→YI,cons_append→YL,mem_cons_self→YM,mem_cons→YN,map_cons→YP,mem_of_getElem?→Yb,replicate→Yc,getElem?_append_right→Ym,getElem?_append_left→Yp,getElem?_map→Yq,length_take→Yv,getElem?_take→Yy,getElem?_drop→WB,length_drop→WJ,range→WY,getElem?_of_mem→Wg,length→Wl,getElem?_cons_succ→QI,drop_drop→Qg,map_drop→YC0,map_take→YC1
open Nat renaming le_refl→YC,lt_of_lt_of_le→YE,beq→YR,zero_le→Ya,ble→Yd,lt_or_ge→Yh,add→Yi,mul→Yn,le_trans→Yr,shiftLeft→Yt,mod→Yx,blt→WC,shiftRight→WD,shiftRight_eq_div_pow→WE,mod_eq_of_lt→WH,succ→WQ,ble_eq_true_of_le→WX,mul_one→Wb,div→Wo,min_eq_left→Ws,mul_comm→Ww,lt_of_le_of_lt→Wy,sub→QO,and_two_pow_sub_one_eq_mod→QW,pow_mul→QY,pow_succ→Qd,le_of_lt→Qe,ne_of_lt→Qn,mod_lt→Qq,shiftLeft_eq→Qs,min_eq_right→Qu,le_of_ble_eq_true→Qz,mul_le_mul_left→YB2,land→YB4,pow→YE3,div_lt_of_lt_mul→YG1,pow_add→YG2,add_comm→YH0,mod_mul_right_div_self→YH3,div_div_eq_div_mul→YL0,div_le_self→YM1,mul_add→YM4,mul_right_comm→YP1,xor→YQ1,and_le_left→YS0
open Or renaming inr→YD,inl→YF
open Array renaming getElem?_eq_some_iff→YO,getElem?_toList→Ys,getElem?_setIfInBounds_ne→WV,getElem?_modify→QE
open Option renaming getD_some→YU,map_eq_some_iff→Yj
open Bool renaming false_eq_true→YV,false_and→Qt,true_and→YO4
open Int renaming toNat_natCast→YA1,fdiv_eq_ediv_of_nonneg→YH4,emod_eq_of_lt→YI3,mul_emod→YL1
open Prod renaming rec→YH2
set_option linter.unusedVariables false
set_option linter.unusedSimpArgs false
set_option linter.unusedSectionVars false
section
namespace Go.Ev
open Go.RowKit
abbrev R:=Nat
def no(c:Nat):R:=c+2
theorem aw{c:Nat}(h:no c=1):False:=by have h':c+2=1:=h;omega
inductive V where|int(k n:Nat)|bool(b:Bool)|str(len n:Nat)|ptr(b off:Nat)|ny|slice(b off len cap sz:Nat)|aE|map(b:Nat)|wK|func(f:Nat)(caps:List V)|rH(b:Nat)|rj|iface(t:Nat)(v:V)|Hm|agg(l:List V)|cG(l:List V)
def mq:IntKind->Nat|.i8=>0|.i16=>1|.i32=>2|.i64=>3|.u8=>4|.u16=>5|.u32=>6|.u64=>7
def pZ:Nat->IntKind|0=>.i8|1=>.i16|2=>.i32|3=>.i64|4=>.u8|5=>.u16|6=>.u32|_=>.u64
theorem dQ(k:IntKind):pZ (mq k)=k:=by cases k<;>rfl
theorem yG(k:IntKind):mq k<8:=by cases k<;>decide
inductive I8 where|i0|i1|i2|i3|i4|i5|i6|i7 deriving DecidableEq
inductive N8(α:Type)where|mk(a0 a1 a2 a3 a4 a5 a6 a7:α)
abbrev Env:=N8 (N8 (N8 V))
inductive Slot where|mk(a b c:I8)deriving DecidableEq
inductive Arg where|s(s:Slot)|c(v:V)
inductive BF where|add(m:Nat)|sub(m:Nat)|mul(m:Nat)|ahb|bor|abZ|aee(m:Nat)|shl(m bits:Nat)|shr(half bits:Nat)|quo(half:Nat)|rem(half:Nat)
inductive CF where|eq|ne|lt(o m:Nat)|le(o m:Nat)|gt(o m:Nat)|ge(o m:Nat)
inductive lU where|bad|lz(x:Arg)|pick(c x y:Arg)|nY(z:List V)|acS(n:Nat)|box(x:Arg)|build(zero:List V)(parts:List (Nat×Nat×Arg))|jY(u8:Bool)(len:Nat)(zero:List V)(parts:List (Nat×Nat×Arg))|cw(a:Arg)|dc(n:Nat)(a:Arg)|ep(a x:Arg)|kj(n:Nat)(a x:Arg)|AK(x:Arg)|bin(kd ky:Nat)(f:BF)(x y:Arg)|cmp(kd:Nat)(f:CF)(x y:Arg)|Ve(x y:Arg)|Vh(neg:Bool)(x y:Arg)|eqv(kc:Nat)(neg:Bool)(x y:Arg)|AI(x:Arg)|FC(src dst mode c:Nat)(x:Arg)|L2(x:Arg)|L3(x:Arg)|mkI(t:Nat)(x:Arg)|mkF(f:Nat)(caps:List Arg)|mkMap|mkSlice(u8:Bool)(zero:List V)(l c:Arg)|slS(x:Arg)(lo hi:Option Arg)|slV(size:Nat)(x:Arg)(lo hi mx:Option Arg)|slA(n size:Nat)(x:Arg)(lo hi mx:Option Arg)|gJ(off:Nat)(x:Arg)|T7(off:Nat)(x:Arg)|T8(off n:Nat)(x:Arg)|ixA(len size:Nat)(x i:Arg)|AH(size:Nat)(x i:Arg)|ixS(x i:Arg)|ixG(len size:Nat)(agg:Bool)(x i:Arg)|look(ks:Bool)(zero:V)(ok:Bool)(m x:Arg)|Ur(ks:Bool)(m x y:Arg)|acQ(ks:Bool)(m x:Arg)|T4(x:Arg)(i:Nat)|call(f:Nat)(args:List Arg)|Tg(x:Arg)(args:List Arg)|app(u8:Bool)(size:Nat)(s x:Arg)|copy(size:Nat)(d s:Arg)|afW(x:Arg)|fU(x:Arg)|Dr(x:Arg)|cap(x:Arg)|mm(kd o m:Nat)(mx:Bool)(x y:Arg)|jE(cls:List Nat)(neg:Bool)(x y:Arg)|mm3(kd o m:Nat)(mx:Bool)(x y z:Arg)|tas(t:Nat)(x:Arg)
inductive Er where|mk(id:Nat)(dst:Option Slot)(guard:Option (Slot×Bool))(cls:Nat)(op:lU)
inductive wB where|mk(id:Nat)(dst:Option Slot)(guard:Option (Slot×Bool))(tag i bf:Nat)(ad:Arg)(op:lU)
inductive RC where|mk(nt fid:Nat)(c:Code)
inductive au where|bad|skip|wg(ops:List Er)|rT(ops:List Er)|X1(ops:List wB)|adI(ops:List wB)|seq(a b:au)|cond(c:Arg)(a b:au)|block(id:Nat)(a:au)|loop(a:au)|exit(id:Nat)|ret|iJ(g:Arg)(ps:List Slot)(assign body:RC)|DJ(g:Arg)(ps:List Slot)(assign body:RC)
inductive RV where|tmp(s:Slot)|Fq(s:Slot)|pI(s:Slot)(n:Nat)
def d8:Nat->I8|0=>.i0|1=>.i1|2=>.i2|3=>.i3|4=>.i4|5=>.i5|6=>.i6|_=>.i7
def bj(t:Nat):Slot:=.mk (d8 (t/64)) (d8 (t/8%8)) (d8 (t%8))
def enc:List UInt8->Nat|[]=>0|x::l=>x.toNat+256*enc l
def nR:Value->Option V|.bool b=>some (.bool b)|.int k n=>if k.wrap n==n then some (.int (mq k) (n%(2^k.bits:Nat)).toNat)else none|.string s=>some (.str s.data.toList.length (enc s.data.toList))|.pointer none=>some .ny|.slice none 0 0=>some .aE|.map none=>some .wK|.nilFunc=>some .rj|.nilIface=>some .Hm|_=>none
def consts:List Value->Option (List V)|[]=>some []|v::l=>match nR v,consts l with|some u,some r=>some (u::r)|_,_=>none
def CM:Value->Option V|.agg cs=>(consts cs.toList).map .agg|.tuple cs=>(consts cs.toList).map .cG|v=>nR v
def aN(nt:Nat):Operand->Option Arg|.tmp t=>if t<nt then some (.s (bj t))else none|.const v=>(CM v).map .c|.func f=>some (.c (.func (2*f) []))|.global _=>none
def cm(nt:Nat):List Operand->Option (List Arg)|[]=>some []|x::l=>match aN nt x,cm nt l with|some a,some r=>some (a::r)|_,_=>none
section
variable(P:Program)(nt:Nat)
def kindOf(t:TypeId):Option IntKind:=match P.underlying t with|some (.int k)=>some k|_=>none
def GJ(t:TypeId):Bool:=match P.underlying t with|some (.int .u8)=>true|_=>false
def mh(t:TypeId):Option Bool:=match P.underlying t with|some (.struct _)|some (.array _ _)=>some true|some _=>some false|none=>none
def rq(t:TypeId):Option Nat:=(P.info? t).map (·.size)
def rI(t:TypeId):Option (List V):=match P.info? t with
 |some i=>match i.zero with|some z=>consts z.cells.toList|none=>none
 |none=>none
def zeroV(t:TypeId):Option V:=match P.info? t with
 |some i=>match i.zero with|some z=>CM z|none=>none
 |none=>none
def half(k:IntKind):Nat:=if k.signed then 2^(k.bits-1)else 2^k.bits
def eo(k:IntKind):Nat:=if k.signed then 2^(k.bits-1)else 0
def abO(op:BinOp)(k:IntKind):Option BF:=match op with|.add=>some (.add (2^k.bits))|.sub=>some (.sub (2^k.bits))|.mul=>some (.mul (2^k.bits))|.and=>some .ahb|.or=>some .bor|.xor=>some .abZ|.andNot=>some (.aee (2^k.bits))|.shl=>some (.shl (2^k.bits) k.bits)|.shr=>some (.shr (half k) k.bits)|.quo=>some (.quo (half k))|.rem=>some (.rem (half k))|_=>none
def ab9(op:BinOp)(k:IntKind):Option CF:=match op with|.eql=>some .eq|.neq=>some .ne|.lss=>some (.lt (eo k) (2^k.bits))|.leq=>some (.le (eo k) (2^k.bits))|.gtr=>some (.gt (eo k) (2^k.bits))|.geq=>some (.ge (eo k) (2^k.bits))|_=>none
def tG:BinOp->Bool|.shl|.shr=>true|_=>false
def af9(k:IntKind):Bool:=!k.signed||k.bits==64
def isC:Arg->Bool|.c _=>true|.s _=>false
def oK(kc:Nat)(op:BinOp)(x y:Arg):lU:=match op with|.eql=>.eqv kc false x y|.neq=>.eqv kc true x y|_=>.bad
def vE(rc:TypeId->Option (List Nat)):List Field->Nat->Option (List Nat)|[],_=>some []|f::l,off=>if f.name== "_"then none else match rc f.type,rq P f.type,vE rc l (off+(rq P f.type).getD 0)with|some c,some s,some r=>if f.offset==off&&s==c.length then some (c++r)else none|_,_,_=>none
def wF:Nat->TypeId->Option (List Nat)|0,_=>none|d+1,t=>match P.underlying t with|some .bool=>some [0]|some (.int _)=>some [1]|some .string=>some [2]|some (.struct fs)=>if P.stoodInHeld t then none else vE P (wF d) fs.toList 0|_=>none
def jH(op:BinOp)(t:TypeId)(c:List Nat)(x y:Arg):lU:=if P.eqGuardType P.depth t then .bad else match op with|.eql=>.jE c false x y|.neq=>.jE c true x y|_=>.bad
def mU(op:BinOp)(t:TypeId)(x y:Arg):lU:=match wF P 4 t with|some c=>jH P op t c x y|none=>.bad
def mV(op:BinOp)(t:TypeId)(n:Nat)(el:TypeId)(x y:Arg):lU:=match wF P 1 el,rq P el with|some [q],some 1=>jH P op t (Yc n q) x y|_,_=>.bad
def qG(op:BinOp)(xt yt:TypeId)(x y:Arg):lU:=match P.underlying xt with
 |some (.int k)=>match ab9 op k with|some f=>.cmp (mq k) f x y|none=>match abO op k with|some f=>if tG op then(match kindOf P yt with|some ky=>if af9 ky then .bin (mq k) (mq ky) f x y else .bad|none=>.bad)else .bin (mq k) (mq k) f x y|none=>.bad
 |some .string=>match op with|.add=>.Ve x y|.eql=>.Vh false x y|.neq=>.Vh true x y|_=>.bad
 |some .bool=>oK 0 op x y|some (.pointer _)=>oK 1 op x y|some (.slice _)=>oK 2 op x y|some (.map _ _)=>oK 3 op x y|some (.func _ _ _)=>oK 4 op x y|some (.interface _)=>if isC x||isC y then oK 5 op x y else .bad|some (.struct _)=>mU P op xt x y|some (.array n el)=>mV P op xt n el x y|some _=>.bad|none=>.bad
def uo(k k':IntKind)(x:Arg):lU:=if k.signed&&k.bits<k'.bits then .FC (mq k) (mq k') (2^(k.bits-1)) (2^k'.bits-2^k.bits) x else .FC (mq k) (mq k') 0 (2^k'.bits) x
def MG(fs:Array Field):Option (List (Nat×Nat)):=fs.toList.mapM λf=>(P.info? f.type).map λi=>(f.offset,i.size)
def lh(pl:List (Nat×Nat)):List (Nat×Arg)->Option (List (Nat×Nat×Arg))|[]=>some []|(i,a)::l=>match pl[i]?,lh pl l with|some p,some r=>some ((p.1,p.2,a)::r)|_,_=>none
def qJ(s:Nat)(l:List (Nat×Arg)):List (Nat×Nat×Arg):=l.map λp=>(p.1*s,s,p.2)
def ev:List (Nat×Operand)->Option (List (Nat×Arg))|[]=>some []|(i,x)::l=>match aN nt x,ev l with|some a,some r=>some ((i,a)::r)|_,_=>none
def Kr:Option Operand->Option (Option Arg)|none=>some none|some x=>(aN nt x).map some
def iK:Nat->List V->List V|0,_=>[]|n+1,l=>l++iK n l
def OQ(t:TypeId):Option Bool:=match P.underlying t with|some (.int _)=>some false|some .string=>some true|_=>none
def z8:List V->Bool|[]=>true|.int 4 0::l=>z8 l|_=>false
def acN(t:TypeId):Bool:=match P.underlying t with|some .string|some (.slice _)|some (.map _ _)=>true|_=>false
def uV(t:TypeId):Option TypeId:=match P.underlying t with|some (.slice e)=>some e|_=>none
def adK(t:TypeId)(s:Nat):Bool:=match rI P t with|some z=>z.length==s|none=>false
def dA(b:Builtin)(asL:List Operand)(ts:List TypeId):lU:=match b with|.len=>(match cm nt asL,ts with|some [x],t::_=>(match P.underlying t with|some .string=>.afW x|some (.slice _)=>.fU x|some (.map _ _)=>.Dr x|_=>.bad)|_,_=>.bad)|.cap=>(match cm nt asL,ts with|some [x],t::_=>(match uV P t with|some _=>.cap x|none=>.bad)|_,_=>.bad)|.append=>(match cm nt asL,ts with|some [s,x],[st,xt]=>(match uV P st with|some e=>(match rq P e,P.info? e with|some s',some i=>if 0<s'&&i.bytes<=65536&&adK P e s'&&acN P xt then .app (GJ P e&&s'==1) s' s x else .bad|_,_=>.bad)|none=>.bad)|_,_=>.bad)|.copy=>(match cm nt asL,ts with|some [d,s],dt::_=>(match uV P dt with|some e=>(match rq P e with|some s'=>.copy s' d s|none=>.bad)|none=>.bad)|_,_=>.bad)|.delete=>(match cm nt asL,ts with|some [m,x],mt::_=>(match P.underlying mt with|some (.map kt _)=>(match OQ P kt with|some ks=>.acQ ks m x|none=>.bad)|_=>.bad)|_,_=>.bad)|.max=>(match cm nt asL,ts with|some [x,y],t::_=>(match kindOf P t with|some k=>.mm (mq k) (eo k) (2^k.bits) true x y|none=>.bad)|some [x,y,z],t::_=>(match kindOf P t with|some k=>.mm3 (mq k) (eo k) (2^k.bits) true x y z|none=>.bad)|_,_=>.bad)|.min=>(match cm nt asL,ts with|some [x,y],t::_=>(match kindOf P t with|some k=>.mm (mq k) (eo k) (2^k.bits) false x y|none=>.bad)|some [x,y,z],t::_=>(match kindOf P t with|some k=>.mm3 (mq k) (eo k) (2^k.bits) false x y z|none=>.bad)|_,_=>.bad)|_=>.bad
def ai(o:Oper):lU:=match o.op with
 |.move x|.assign x=>match aN nt x with|some a=>.lz a|none=>.bad
 |.pick c x y=>match aN nt c,aN nt x,aN nt y with|some c,some a,some b=>.pick c a b|_,_,_=>.bad
 |.alloc t=>match rI P t,P.underlying t with|some z,some (.array n _)=>if z8 z&&z.length==n then .acS n else .nY z|some z,some _=>.nY z|_,_=>.bad
 |.box _ x=>match aN nt x with|some a=>.box a|none=>.bad
 |.build t parts=>match rI P t,ev nt parts.toList,P.underlying t with
  |some z,some ps,some (.struct fs)=>match MG P fs with|some pl=>(match lh pl ps with|some q=>.build z q|none=>.bad)|none=>.bad
  |some z,some ps,some (.array _ e)=>match rq P e with|some s=>.build z (qJ s ps)|none=>.bad
  |_,_,_=>.bad
 |.buildSlice t len parts=>match ev nt parts.toList,P.underlying t with
  |some ps,some (.slice e)=>match rq P e,rI P e with|some s,some z=>if len*s<=1024&&z.length==s then .jY (GJ P e&&0<len) len (iK len z) (qJ s ps)else .bad|_,_=>.bad
  |_,_=>.bad
 |.load t a=>match aN nt a,mh P t,rq P t with|some a,some true,some n=>.dc n a|some a,some false,_=>.cw a|_,_,_=>.bad
 |.store t a x=>match aN nt a,aN nt x,mh P t,rq P t with|some a,some x,some true,some n=>.kj n a x|some a,some x,some false,some 1=>.ep a x|_,_,_,_=>.bad
 |.nilCheck x=>match aN nt x with|some a=>.AK a|none=>.bad
 |.binOp op xt x y yt=>match aN nt x,aN nt y with|some x,some y=>qG P op xt yt x y|_,_=>.bad
 |.unOp op xt x=>match aN nt x,op with
  |some x,.not=>.AI x|some x,.neg=>match kindOf P xt with|some k=>.bin (mq k) (mq k) (.sub (2^k.bits)) (.c (.int (mq k) 0)) x|none=>.bad
  |some x,.xor=>match kindOf P xt with|some k=>.bin (mq k) (mq k) .abZ (.c (.int (mq k) (2^k.bits-1))) x|none=>.bad
  |_,_=>.bad
 |.convert s d x=>match aN nt x,P.underlying s,P.underlying d with|some x,some (.int k),some (.int k')=>uo k k' x|some x,some (.slice e),some .string=>if GJ P e then .L2 x else .bad|some x,some .string,some (.slice e)=>if GJ P e then .L3 x else .bad|some x,some .string,some .string=>.Ve x (.c (.str 0 0))|_,_,_=>.bad
 |.makeInterface t x=>match aN nt x,P.underlying t with|some _,some (.interface _)=>.bad|some x,some _=>.mkI t x|_,_=>.bad
 |.typeAssert x _ t ok=>match ok,aN nt x,P.underlying t with|true,some _,some (.interface _)=>.bad|true,some x,some _=>.tas t x|_,_,_=>.bad
 |.makeFunc (.func f) first caps=>match first.toList,cm nt caps.toList with
  |[],some l=>.mkF (2*f) l|q::qs,some []=>match cm nt (q::qs)with|some l=>.mkF (2*f+1) l|none=>.bad
  |_,_=>.bad
 |.makeMap _ none=>.mkMap|.makeSlice t l c=>match aN nt l,aN nt c,P.underlying t with
  |some l,some c,some (.slice e)=>match rI P e,rq P e,P.info? e with|some z,some s,some i=>if z.length==s&&0<s&&i.bytes<=65536then .mkSlice (z8 z&&s==1) z l c else .bad|_,_,_=>.bad
  |_,_,_=>.bad
 |.slice t x lo hi mx=>match aN nt x,Kr nt lo,Kr nt hi,Kr nt mx with
  |some x,some lo,some hi,some mx=>match P.underlying t with
   |some .string=>match mx with|none=>.slS x lo hi|some _=>.bad
   |some (.slice e)=>match rq P e with|some s=>(match hi,mx with|none,some _=>.bad|_,_=>.slV s x lo hi mx)|none=>.bad
   |some (.array n e)=>match rq P e with|some s=>(match hi,mx with|none,some _=>.bad|_,_=>.slA n s x lo hi mx)|none=>.bad
   |_=>.bad
  |_,_,_,_=>.bad
 |.fieldAddr t x f=>match aN nt x,P.underlying t with
  |some x,some (.struct fs)=>match fs[f]?with
   |some fd=>match rq P fd.type with|some (_+1)=>.gJ fd.offset x|_=>.bad
   |none=>.bad
  |_,_=>.bad
 |.field t x f=>match aN nt x,P.underlying t with
  |some x,some (.struct fs)=>match fs[f]?with
   |some fd=>match mh P fd.type,rq P fd.type with|some true,some n=>.T8 fd.offset n x|some false,some _=>.T7 fd.offset x|_,_=>.bad
   |none=>.bad
  |_,_=>.bad
 |.indexAddr t x i=>match aN nt x,aN nt i,P.underlying t with
  |some x,some i,some (.array len e)=>match rq P e with|some s=>.ixA len s x i|none=>.bad
  |some x,some i,some (.slice e)=>match rq P e with|some s=>.AH s x i|none=>.bad
  |_,_,_=>.bad
 |.index t x i=>match aN nt x,aN nt i,P.underlying t with
  |some x,some i,some .string=>.ixS x i|some x,some i,some (.array len e)=>match rq P e,mh P e with|some s,some b=>.ixG len s b x i|_,_=>.bad
  |_,_,_=>.bad
 |.lookup t m x ok=>match aN nt m,aN nt x,P.underlying t with
  |some m,some x,some (.map kt e)=>match zeroV P e,OQ P kt with|some z,some ks=>.look ks z ok m x|_,_=>.bad
  |_,_,_=>.bad
 |.mapUpdate t m x y|.insert t m x y=>match aN nt m,aN nt x,aN nt y,P.underlying t with
  |some m,some x,some y,some (.map kt _)=>match OQ P kt with|some ks=>.Ur ks m x y|none=>.bad
  |_,_,_,_=>.bad
 |.extract x i=>match aN nt x with|some x=>.T4 x i|none=>.bad
 |.call {callee:=.value (.func f),args,argTypes:=_}=>match cm nt args.toList,P.funcs[f]?with|some l,some _=>.call (2*f) l|_,_=>.bad
 |.call {callee:=.value (.tmp t),args,argTypes:=_}=>match aN nt (.tmp t),cm nt args.toList with|some x,some l=>.Tg x l|_,_=>.bad
 |.call {callee:=.builtin b,args,argTypes:=ts}=>dA P nt b args.toList ts.toList|_=>.bad
def bQ:lU->Bool|.lz _|.pick _ _ _|.build _ _|.AK _|.bin ..|.cmp ..|.Ve ..|.Vh ..|.eqv ..|.AI _|.FC ..|.mkI ..|.tas ..|.mkF ..|.slS ..|.slV ..|.slA ..|.gJ ..|.T7 ..|.T8 ..|.ixA ..|.AH ..|.ixS ..|.ixG ..|.T4 ..|.jE ..=>true|_=>false
def guardOf(ops:Array Oper)(g:Option (Nat×Bool)):Option (Option (Slot×Bool)):=match g with|none=>some none|some (j,b)=>match ops[j]?with
  |some o=>match o.dst with|some d=>if d<nt then some (some (bj d,b))else none|none=>none
  |none=>none
def tp(d:Option Tmp):Option (Option Slot):=match d with|none=>some none|some d=>if d<nt then some (some (bj d))else none
def iG(l:List Bool)(bf:Array Nat)(i:Nat):Bool:=l.zipIdx.all λp=>p.1||p.2==i||(bf.getD i 0).testBit p.2||(bf.getD p.2 0).testBit i
def lP:lU->Bool|.nY _|.acS _=>true|_=>false
def dJ(l al:List Bool)(bf:Array Nat)(i:Nat):Bool:=!(al.getD i false)&&l.zipIdx.all λp=>p.1||p.2==i||(bf.getD i 0).testBit p.2||(bf.getD p.2 0).testBit i||(al.getD p.2 false&&WC i p.2)
def dG(base:Nat)(ops:Array Oper)(pl al:List Bool)(bf:Array Nat):List Oper->Nat->Option (List Er)|[],_=>some []|o::l,i=>match tp nt o.dst,guardOf nt ops o.guard,dG base ops pl al bf l (i+1)with|some d,some g,some r=>let c:=ai P nt o;some (.mk 0 d g (if bQ c||dJ pl al bf i then 0 else 1) c::r)|_,_,_=>none
def xd(ops:Array Oper)(o:Oper):List Tmp:=o.dst.toList++o.looksAt ops
def kA(ops:Array Oper)(bf:Array Nat):Bool:=ops.toList.zipIdx.all λp=>ops.toList.zipIdx.all λq=>p.2==q.2||(match p.1.dst with|none=>true|some d=>!(xd ops q.1).contains d||(if p.2<q.2then(bf.getD q.2 0).testBit p.2else(bf.getD p.2 0).testBit q.2))
def lY(ops:Array Oper):Bool:=ops.toList.zipIdx.all λp=>p.1.after.toList.all λe=>!Region.binds .any e||e.on<p.2
def GH:lU->Bool|.cw _|.dc _ _=>true|_=>false
def Dl:lU->Bool|.ep _ _|.kj _ _ _|.app _ _ _ _=>true|_=>false
def rN:lU->Arg|.cw a|.dc _ a=>a|.ep a _|.kj _ a _=>a|.app _ _ s _=>s|.box _=>.c .aE|_=>.c .ny
def rA:lU->Bool|.box _=>true|_=>false
def kg(bf:Array Nat)(i j:Nat):Bool:=(bf.getD i 0).testBit j||(bf.getD j 0).testBit i
def lr(cs:List lU)(bf:Array Nat)(i:Nat):Bool:=rA (cs.getD i .bad)&&cs.zipIdx.any λq=>Dl q.1&&WC i q.2&&!(kg bf i q.2)
def ae8(cs:List lU)(bf:Array Nat)(i:Nat):Bool:=Dl (cs.getD i .bad)&&cs.zipIdx.all λq=>bQ q.1||GH q.1||q.2==i||kg bf i q.2||lr cs bf q.2
def uG(l la:List Bool)(bf:Array Nat)(i:Nat):Bool:=l.zipIdx.all λp=>p.1||p.2==i||(bf.getD i 0).testBit p.2||(bf.getD p.2 0).testBit i||(la.getD p.2 false&&WC p.2 i)
def Ui(cs:List lU)(bf:Array Nat):List Bool:=cs.zipIdx.map λq=>lr cs bf q.2
def rY(cs:List lU)(bf:Array Nat)(i:Nat):Bool:=GH (cs.getD i .bad)&&cs.zipIdx.any λq=>ae8 cs bf q.2&&!(kg bf i q.2)
def af2(cs:List lU)(bf:Array Nat):List Bool:=cs.zipIdx.map λq=>bQ q.1||rY cs bf q.2
def pn(cs:List lU)(bf:Array Nat)(i:Nat):Bool:=uG (af2 cs bf) (Ui cs bf) bf i&&(Dl (cs.getD i .bad)||iG (cs.map bQ) bf i)
def abi(cs:List lU)(bf:Array Nat):Bool:=cs.zipIdx.any λq=>Dl q.1&&!(iG (cs.map bQ) bf q.2)
def l9(cs:List lU)(bf:Array Nat)(c:lU)(i:Nat):Nat:=if rY cs bf i then 2 else if bQ c then 0 else if pn cs bf i then(if iG (cs.map bQ) bf i then 0 else 3)else if lr cs bf i then 4 else 1
def je(base:Nat)(ops:Array Oper)(cs:List lU)(bf:Array Nat):List Oper->Nat->Option (List wB)|[],_=>some []|o::l,i=>match tp nt o.dst,guardOf nt ops o.guard,je base ops cs bf l (i+1)with|some d,some g,some r=>some (.mk 0 d g (l9 cs bf (ai P nt o) i) i (bf.getD i 0) (rN (ai P nt o)) (ai P nt o)::r)|_,_,_=>none
def xrs:List Nat:=[10*100000+500]
def Ep(c:lU):Nat:=if bQ c then 0 else if GH c then 5 else 6
def jf(base:Nat)(ops:Array Oper):List Oper->Nat->Option (List wB)|[],_=>some []|o::l,i=>match tp nt o.dst,guardOf nt ops o.guard,jf base ops l (i+1)with|some d,some g,some r=>some (.mk 0 d g (Ep (ai P nt o)) i 0 (rN (ai P nt o)) (ai P nt o)::r)|_,_,_=>none
def wP(c:lU):Bool:=bQ c||GH c
def xOK(cs:List lU)(bf:Array Nat):Bool:=cs.zipIdx.all λq=>wP q.1||iG (cs.map wP) bf q.2
def dE(o:Oper):Option (TypeId×Nat×Nat):=match o.op,o.dst,o.guard with|.load t (.tmp s),some d,none=>some (t,s,d)|_,_,_=>none
def mn(o:Oper):Bool:=(dE o).isSome
def Jf(ops:Array Oper)(o:Oper):Bool:=match o.op,o.dst,o.guard with|.store t (.tmp s) (.tmp d),none,none=>o.after.toList.any λe=>Region.binds .any e&&(match ops[e.on]?with|some o'=>dE o'==some (t,s,d)|none=>false)|_,_,_=>false
def lx(ops:Array Oper):List Nat:=ops.toList.filterMap λo=>(dE o).map (·.2.2)
def UK(t:TypeId):Bool:=match mh P t with|some true=>(rq P t).isSome|some false=>rq P t==some 1|none=>false
def Cs(ops:Array Oper):Bool:=lY ops&&(ops.toList.all λo=>mn o||Jf ops o)&&decide (lx ops).Nodup&&ops.toList.all λo=>match dE o with|some (t,s,_)=>!(lx ops).contains s&&UK P t|none=>true
def XI(base:Nat)(ops:Array Oper)(draw:Bool):au:=if draw then if Cs P ops then(match dG P nt base ops [] [] #[] (ops.toList.filter mn) 0with|some l=>.wg l|none=>.bad)else let bf:=Region.before ops;if kA ops bf&&lY ops then if xrs.contains base&&xOK (ops.toList.map (ai P nt)) bf then(match jf P nt base ops ops.toList 0with|some l=>.adI l|none=>.bad)else if abi (ops.toList.map (ai P nt)) bf then(match je P nt base ops (ops.toList.map (ai P nt)) bf ops.toList 0with|some l=>.X1 l|none=>.bad)else match dG P nt base ops (ops.toList.map λo=>bQ (ai P nt o)) (ops.toList.map λo=>lP (ai P nt o)) bf ops.toList 0with|some l=>.rT l|none=>.bad else .bad else match dG P nt base ops [] [] #[] ops.toList 0with|some l=>.wg l|none=>.bad
def iD:List Tmp->Option (List Slot)|[]=>some []|t::l=>match iD l with|some r=>if t<nt then some (bj t::r)else none|none=>none
def iU(fid:Nat)(inl:Bool):Code->au
 |.skip=>.skip|.region id ops draw=>XI P nt (fid*100000+id*100) ops draw|.seq a b=>.seq (iU fid inl a) (iU fid inl b)|.cond c a b=>match aN nt c with|some x=>.cond x (iU fid inl a) (iU fid inl b)|none=>.bad
 |.block id a=>.block id (iU fid inl a)|.loop a=>.loop (iU fid inl a)|.exit id=>.exit id|.ret=>.ret|.rangeFunc g ps asL bo=>if inl then(match aN nt g,iD nt ps.toList with|some x,some l=>.DJ x l (.mk nt fid asL) (.mk nt fid bo)|_,_=>.bad)else match aN nt g,iD nt ps.toList with|some x,some l=>.iJ x l (.mk nt fid asL) (.mk nt fid bo)|_,_=>.bad
 |_=>.bad
def aO:RC->au|.mk nt fid c=>iU P nt fid true c
def lX(l:List ResultVar):Option (List RV):=match l with
 |[]=>some []|.tmp t::l=>match lX l with|some r=>if t<nt then some (.tmp (bj t)::r)else none|none=>none
 |.cell a t::l=>match lX l,mh P t,rq P t with|some r,some false,_=>if a<nt then some (.Fq (bj a)::r)else none|some r,some true,some n=>if a<nt then some (.pI (bj a) n::r)else none|_,_,_=>none
end
def aF:Nat->Nat->List UInt8|0,_=>[]|l+1,n=>UInt8.ofNat (n%256)::aF l (n/256)
def fJ(k:IntKind):Nat:=2^k.bits
def toI(k:IntKind)(n:Nat):Int:=k.wrap (n:Int)
structure M where
 b:Nat->Nat->Prop
 z:Nat->Nat->Prop
def M.le(m m':M):Prop:=(∀b c,m.b b c->m'.b b c)/\∀c z,m.z c z->m'.z c z
mutual def VR(mu:M):V->Value->Prop|.int k n,v=>v=.int (pZ k) (toI (pZ k) n)/\n<fJ (pZ k)/\k<8|.bool b,v=>v=.bool b|.str l n,v=>v=.string ⟨(aF l n).toArray⟩/\n<256^l|.ptr b o,v=>∃c,v=.pointer (some ⟨c,o,none⟩)/\mu.b b c|.ny,v=>v=.pointer none|.slice b o l cp sz,v=>∃c cap o' sp,v=.slice (some ⟨c,o',sp⟩) l cap/\mu.b b c/\l<=cap/\((∀q,cp=q+1->cap=q)/\(cp=0->cap=0\/(mu.z c (o'+cap*sz)/\cap<9223372036854775808)))/\(o'=o/\sp=none\/cap=0)|.aE,v=>v=.slice none 0 0|.map b,v=>∃c,v=.map (some c)/\mu.b b c|.wK,v=>v=.map none|.func f l,v=>∃cs,v=.func (.func (f/2)) (if f%2=0then#[]else cs) (if f%2=0then cs else#[])/\cA mu l cs.toList|.rH b,v=>∃c,v=.func (.yield c) #[] #[]/\mu.b b c|.rj,v=>v=.nilFunc|.iface t x,v=>∃y,v=.iface t y/\VR mu x y|.Hm,v=>v=.nilIface|.agg l,v=>∃cs,v=.agg cs/\cA mu l cs.toList|.cG l,v=>∃cs,v=.tuple cs/\cA mu l cs.toList def cA(mu:M):List V->List Value->Prop|[],cs=>cs=[]|v::l,cs=>∃c r,cs=c::r/\VR mu v c/\cA mu l r end
mutual theorem VR.mono{mu mu':M}(h:mu.le mu'):∀(v:V)(c:Value),VR mu v c->VR mu' v c|.int ..,_,hv=>by simpa only[VR]using hv|.bool _,_,hv=>by simpa only[VR]using hv|.str ..,_,hv=>by simpa only[VR]using hv|.ptr ..,_,hv=>by simp only[VR]at hv⊢;obtain⟨c,h1,h2⟩:=hv;exact⟨c,h1,h.1 _ _ h2⟩|.ny,_,hv=>by simpa only[VR]using hv|.slice ..,_,hv=>by simp only[VR]at hv⊢;obtain⟨c,cap,o',sp,h1,h2,h3,⟨h4,h5⟩,h6⟩:=hv;exact⟨c,cap,o',sp,h1,h.1 _ _ h2,h3,⟨h4,λe=>(h5 e).imp id λq=>⟨h.2 _ _ q.1,q.2⟩⟩,h6⟩|.aE,_,hv=>by simpa only[VR]using hv|.map _,_,hv=>by simp only[VR]at hv⊢;obtain⟨c,h1,h2⟩:=hv;exact⟨c,h1,h.1 _ _ h2⟩|.wK,_,hv=>by simpa only[VR]using hv|.func _ l,_,hv=>by simp only[VR]at hv⊢;obtain⟨c,h1,h2⟩:=hv;exact⟨c,h1,cA.mono h l _ h2⟩|.rH _,_,hv=>by simp only[VR]at hv⊢;obtain⟨c,h1,h2⟩:=hv;exact⟨c,h1,h.1 _ _ h2⟩|.rj,_,hv=>by simpa only[VR]using hv|.iface _ x,_,hv=>by simp only[VR]at hv⊢;obtain⟨c,h1,h2⟩:=hv;exact⟨c,h1,VR.mono h x _ h2⟩|.Hm,_,hv=>by simpa only[VR]using hv|.agg l,_,hv=>by simp only[VR]at hv⊢;obtain⟨c,h1,h2⟩:=hv;exact⟨c,h1,cA.mono h l _ h2⟩|.cG l,_,hv=>by simp only[VR]at hv⊢;obtain⟨c,h1,h2⟩:=hv;exact⟨c,h1,cA.mono h l _ h2⟩theorem cA.mono{mu mu':M}(h:mu.le mu'):∀(l:List V)(cs:List Value),cA mu l cs->cA mu' l cs|[],_,hv=>by simpa only[cA]using hv|v::l,_,hv=>by simp only[cA]at hv⊢;obtain⟨c,r,h1,h2,h3⟩:=hv;exact⟨c,r,h1,VR.mono h v _ h2,cA.mono h l _ h3⟩end
theorem cA.length{mu:M}:∀{l:List V}{cs:List Value},cA mu l cs->cs.length=l.length|[],_,h=>by simp only[cA]at h;subst h;rfl|_::l,_,h=>by simp only[cA]at h;obtain⟨c,r,rfl,_,h2⟩:=h;simp[cA.length h2]
theorem cA.get{mu:M}:∀{l:List V}{cs:List Value},cA mu l cs->∀{i:Nat}{v:V},l[i]?=some v->∃c,cs[i]?=some c/\VR mu v c|[],_,_,i,v,hi=>by simp at hi|x::l,_,h,i,v,hi=>by simp only[cA]at h;obtain⟨c,r,rfl,h1,h2⟩:=h;cases i with|zero=>simp at hi;subst hi;exact⟨c,rfl,h1⟩|succ i=>simp only[QI]at hi⊢;exact cA.get h2 hi
theorem cA.qh{mu:M}:∀{l:List V}{cs:List Value},cs.length=l.length->(∀(i:Nat)(v:V)(c:Value),l[i]?=some v->cs[i]?=some c->VR mu v c)->cA mu l cs|[],cs,hl,_=>by simp only[cA];exact List.length_eq_zero_iff.1 (by simpa using hl)|x::l,[],hl,_=>by simp at hl|x::l,c::r,hl,h=>by simp only[cA];exact⟨c,r,rfl,h 0 x c rfl rfl,cA.qh (by simpa using hl) λi v c' h1 h2=>h (i+1) v c' (by simpa using h1) (by simpa using h2)⟩
theorem cA.append{mu:M}:∀{l m:List V}{cs ds:List Value},cA mu l cs->cA mu m ds->cA mu (l++m) (cs++ds)|[],_,_,_,h,h'=>by simp only[cA]at h;subst h;simpa using h'|x::l,_,_,_,h,h'=>by simp only[cA]at h;obtain⟨c,r,rfl,h1,h2⟩:=h;simp only[YL,cA];exact⟨c,_,rfl,h1,cA.append h2 h'⟩
def V.one:V->Bool|.agg _|.cG _=>false|_=>true
theorem VR.one{mu:M}{v:V}{c:Value}(h:VR mu v c)(ho:v.one=true):(∀x,c≠.agg x)/\(∀x,c≠.tuple x):=by cases v<;>simp only[VR]at h<;>simp[V.one]at ho<;>first|(subst h;constructor<;>intro x hx<;>cases hx)|(obtain⟨rfl,_⟩:=h;constructor<;>intro x hx<;>cases hx)|(obtain⟨c,rfl,_⟩:=h;constructor<;>intro x hx<;>cases hx)|(obtain⟨c,d,o,sp,rfl,_⟩:=h;constructor<;>intro x hx<;>cases hx)
inductive eN where|dead|cells(l:List V)|bytes(len n:Nat)|map(es:List (V×V))|mark|loop(st jump:Nat)(e:Env)(ps:List Slot)(assign body:RC)|view(l:List V)
def eN.alive:eN->Prop|.dead=>False|_=>True
def jV(mu:M)(l:List V)(c:Array Value)(fr:Nat×Nat):Prop:=(∀(i:Nat)(v:V),l[i]?=some v->v.one=true/\∃cv,c[i]?=some cv/\VR mu v cv)/\∀i,i<c.size->¬(fr.1<=i/\i<fr.2)
def p8{α:Type}(i:I8)(t:N8 α):α:=match t with|.mk a0 a1 a2 a3 a4 a5 a6 a7=>match i with|.i0=>a0|.i1=>a1|.i2=>a2|.i3=>a3|.i4=>a4|.i5=>a5|.i6=>a6|.i7=>a7
def af(s:Slot)(e:Env):V:=match s with|.mk a b c=>p8 c (p8 b (p8 a e))
structure TR(mu:M)(nt:Nat)(e:Env)(tmps:Array Value):Prop where
 size:tmps.size=nt
 le:nt<=512get:∀(t:Nat)(v:Value),tmps[t]?=some v->VR mu (af (bj t) e) v
 rest:∀t,nt<=t->t<512->af (bj t) e=.cG []
theorem TR.mono{mu mu':M}(h:mu.le mu'){nt:Nat}{e:Env}{tmps:Array Value}(ht:TR mu nt e tmps):TR mu' nt e tmps:=⟨ht.size,ht.le,λt v hv=>VR.mono h _ _ (ht.get t v hv),ht.rest⟩
def Z7:LoopState->Nat|.ready=>0|.busy=>1|.done=>2|.exhausted=>3
def KC:Nat->Option Code|0=>none|1=>some .ret|n+2=>some (.exit n)
def Kd(x y:V):Prop:=(∃k a b,x=.int k a/\y=.int k b)\/∃l a m b,x=.str l a/\y=.str m b
def cT(ks:List V):Prop:=ks.Nodup/\∀x∈ks,∀y∈ks,Kd x y
def ft(ents:Array MapEntry)(clock:Nat):Prop:=(ents.toList.map (·.born)).Nodup/\∀en∈ents.toList,en.born<clock
def BR(P:Program)(mu:M):eN->Obj->Prop|.dead,_=>True|.cells l,o=>∃c e fr,o=.cells c e fr/\jV mu l c fr/\¬(fr.1<=c.size/\c.size<fr.2)|.bytes len n,o=>∃c e fr,o=.cells c e fr/\(n<256^len/\∀(i:Nat)(x:UInt8),(aF len n)[i]?=some x->c[i]?=some (Value.int .u8 (x.toNat:Int)))/\∀i,i<c.size->¬(fr.1<=i/\i<fr.2)|.map es,o=>∃(ents:Array MapEntry)(clock:Nat)(es':List (V×V)),o=.map ents clock/\es'.Perm es/\cT (es.map (·.1))/\ft ents clock/\cA mu (es'.map (·.1)) (ents.toList.map (·.key))/\cA mu (es'.map (·.2)) (ents.toList.map (·.val))|.mark,o=>∃x,o=.deferred x|.view l,o=>∃c e fr,o=.cells c e fr/\∀(i:Nat)(v:V),l[i]?=some v->v.one=true->(∃cv,c[i]?=some cv/\VR mu v cv)/\¬(fr.1<=i/\i<fr.2)|.loop st jump e ps asL bo,o=>∃(r:Loop)(nt fid:Nat),o=.loop r/\Z7 r.state=st/\r.pending=KC jump/\TR mu nt e r.tmps/\iD nt r.params.toList=some ps/\RC.mk nt fid r.assign=asL/\RC.mk nt fid r.body=bo
theorem BR.mono{P:Program}{mu mu':M}(h:mu.le mu'){bl:eN}{o:Obj}(hb:BR P mu bl o):BR P mu' bl o:=by cases bl with|dead=>exact True.intro|cells l=>obtain⟨c,e,fr,h1,⟨h2,h3⟩,h4⟩:=hb;exact⟨c,e,fr,h1,⟨λi v hi=>⟨(h2 i v hi).1,(h2 i v hi).2.imp λcv hcv=>⟨hcv.1,VR.mono h _ _ hcv.2⟩⟩,h3⟩,h4⟩|bytes len n=>exact hb|map es=>obtain⟨ents,clock,es',h1,h4,h5,h6,h2,h3⟩:=hb;exact⟨ents,clock,es',h1,h4,h5,h6,cA.mono h _ _ h2,cA.mono h _ _ h3⟩|mark=>exact hb|view l=>obtain⟨c,e,fr,h1,h2⟩:=hb;exact⟨c,e,fr,h1,λi v hi ho=>⟨(h2 i v hi ho).1.imp λcv hcv=>⟨hcv.1,VR.mono h _ _ hcv.2⟩,(h2 i v hi ho).2⟩⟩|loop st jump e ps asL bo=>obtain⟨r,nt,fid,h1,h2,h3,h4,h5⟩:=hb;exact⟨r,nt,fid,h1,h2,h3,h4.mono h,h5⟩
inductive HT where|e|n(v:eN)(l r:HT)
noncomputable def HT.get:HT->Nat->eN:=HT.rec (motive:=λ_=>Nat->eN) (λ_=>.dead) (λv _ _ gl gr k=>Nat.rec (motive:=λ_=>eN) v (λj _=>Nat.rec (motive:=λ_=>eN) (gl (Wo j 2)) (λ_ _=>gr (Wo j 2)) (Yx j 2)) k)
noncomputable def HT.set(x:eN):HT->Nat->(HT->R)->R:=HT.rec (motive:=λ_=>Nat->(HT->R)->R) (λk c=>Nat.rec (motive:=λ_=>R) (c (.n x .e .e)) (λ_ _=>no 1) k) (λu l r sl sr k c=>Nat.rec (motive:=λ_=>R) (c (.n x l r)) (λj _=>Nat.rec (motive:=λ_=>R) (sl (Wo j 2) λl'=>c (.n u l' r)) (λ_ _=>sr (Wo j 2) λr'=>c (.n u l r')) (Yx j 2)) k)
theorem HT.vO(k:Nat):HT.get .e k=.dead:=rfl
theorem HT.Gz(v:eN)(l r:HT):HT.get (.n v l r) 0=v:=rfl
theorem HT.db(v:eN)(l r:HT)(j:Nat):HT.get (.n v l r) (j+1)=if j%2=0then HT.get l (j/2)else HT.get r (j/2):=by show Nat.rec (motive:=λ_=>eN) (HT.get l (j/2)) (λ_ _=>HT.get r (j/2)) (j%2)=_;rcases(by omega:j%2=0\/j%2=1)with h|h<;>rw[h]<;>rfl
theorem HT.KV{x:eN}:∀(t:HT)(k:Nat)(c:HT->R),t.set x k c=1->∃t',c t'=1/\t'.get k=x/\∀j,j≠k->t'.get j=t.get j:=by intro t;induction t with
 |e=>intro k c h;cases k with
  |zero=>refine⟨_,h,rfl,λj hj=>?_⟩;cases j with|zero=>exact absurd rfl hj|succ j=>rw[db,vO,vO];simp[vO]
  |succ k=>exact(aw h).elim
 |n u l r ihl ihr=>intro k c h;cases k with
  |zero=>refine⟨_,h,rfl,λj hj=>?_⟩;cases j with|zero=>exact absurd rfl hj|succ j=>rw[db,db]
  |succ k=>
   have h':Nat.rec (motive:=λ_=>R) (l.set x (k/2) λl'=>c (.n u l' r)) (λ_ _=>r.set x (k/2) λr'=>c (.n u l r')) (k%2)=1:=h;rcases(by omega:k%2=0\/k%2=1)with hk|hk;.rw[hk]at h';obtain⟨t',h1,h2,h3⟩:=ihl _ _ h';refine⟨_,h1,by rw[db,if_pos hk];exact h2,λj hj=>?_⟩;cases j with|zero=>rfl|succ j=>
     rw[db,db];split;.exact h3 _ (by omega)
     .rfl
   .rw[hk]at h';obtain⟨t',h1,h2,h3⟩:=ihr _ _ h';refine⟨_,h1,by rw[db,if_neg (by omega)];exact h2,λj hj=>?_⟩;cases j with|zero=>rfl|succ j=>
     rw[db,db];split;.rfl
     .exact h3 _ (by omega)
inductive Heap where|mk(n bD:Nat)(t:HT)
noncomputable def Heap.n(h:Heap):Nat:=Heap.rec (λn _ _=>n) h
noncomputable def Heap.bD(h:Heap):Nat:=Heap.rec (λ_ w _=>w) h
noncomputable def Heap.t(h:Heap):HT:=Heap.rec (λ_ _ t=>t) h
noncomputable def Heap.get(h:Heap)(b:Nat):eN:=h.t.get b
def mu(rho:Nat->Option Nat)(H:Heap)(w:World):M:=⟨λb c=>b<H.n/\((H.get b).alive->rho b=some c),λc z=>∃cs e fr,w.heap[c]?=some (.cells cs e fr)/\cs.size=z⟩
def GB(_:Nat):Prop:=False
def GQ(_:World):Prop:=True
theorem wQ{w w':World}(_:GQ w)(_:∀c,GB c->w'.heap[c]?=w.heap[c]?):GQ w':=trivial
theorem Gno{w:World}:GQ w/\∀c,GB c->c<w.heap.size:=⟨trivial,λ_ h=>h.elim⟩
def Gl(rho:Nat->Option Nat)(w:World):Prop:=GQ w/\(∀c,GB c->c<w.heap.size)/\∀b c,rho b=some c->¬GB c
structure PR(P:Program)(base:Nat)(w0:World)(rho:Nat->Option Nat)(H:Heap)(w:World):Prop where
 below:Below base w0 w
 de:base<=w.heap.size
 wn:H.bD<=H.n
 j8:∀b c,rho b=some c->b<H.n/\base<=c/\c<w.heap.size/\(H.get b).alive
 inj:∀b b' c,rho b=some c->rho b'=some c->b=b'
 cQ:∀b c,rho b=some c->∃o,w.heap[c]?=some o/\BR P (mu rho H w) (H.get b) o
 out:∀b,H.n<=b->H.get b=.dead
 gl:Gl rho w
structure Ext(rho:Nat->Option Nat)(H:Heap)(w:World)(rho':Nat->Option Nat)(H':Heap)(w':World):Prop where
 n:H.n<=H'.n
 bD:H'.bD<=H.bD
 size:w.heap.size<=w'.heap.size
 bU:∀b,b<H.n->b<H'.bD->H'.get b=H.get b/\rho' b=rho b
 old:∀b c,b<H.n->rho' b=some c->rho b=some c
 live:∀b c,rho b=some c->(H'.get b).alive->rho' b=some c
 rC:∀b,b<H.n->(H'.get b).alive->(H.get b).alive
 new:∀b c,H.n<=b->rho' b=some c->w.heap.size<=c\/∃b0,rho b0=some c/\H'.bD<=b0
 fr:∀c,c<w.heap.size->(∀b,rho b=some c->b<H'.bD)->w'.heap[c]?=w.heap[c]?marks:∀b,H.get b=.mark->H'.get b=.mark/\rho' b=rho b/\∀c,rho b=some c->w'.heap[c]?=w.heap[c]?rows:∀(c:Nat)(cs:Array Value)(e:TypeId)(fr:Nat×Nat),w.heap[c]?=some (.cells cs e fr)->∃cs' e' fr',w'.heap[c]?=some (.cells cs' e' fr')/\cs'.size=cs.size
 loops:∀(c:Nat)(r:Loop),w.heap[c]?=some (.loop r)->∃r',w'.heap[c]?=some (.loop r')
theorem Ext.refl{rho:Nat->Option Nat}{H:Heap}{w:World}(hd:∀b c,rho b=some c->b<H.n):Ext rho H w rho H w:=⟨YC _,YC _,YC _,λ_ _ _=>⟨rfl,rfl⟩,λ_ _ _ h=>h,λ_ _ h _=>h,λ_ _ h=>h,λb c hb h=>absurd (hd b c h) (by omega),λ_ _ _=>rfl,λb h=>⟨h,rfl,λ_ _=>rfl⟩,λc cs e fr h=>⟨cs,e,fr,h,rfl⟩,λc r h=>⟨r,h⟩⟩
theorem Gl.step{rho rho':Nat->Option Nat}{H H':Heap}{w w':World}(h:Gl rho w)(e:Ext rho H w rho' H' w'):Gl rho' w':=by
 obtain⟨h1,h2,h3⟩:=h;refine⟨wQ h1 λc hc=>e.fr c (h2 c hc) λb hb=>absurd hc (h3 b c hb),λc hc=>YE (h2 c hc) e.size,λb c hb hc=>?_⟩;by_cases hbn:b<H.n;.exact h3 b c (e.old b c hbn hb) hc
 .rcases e.new b c (by omega) hb with h|⟨b0,h4,_⟩;.have:=h2 c hc;omega
  .exact h3 b0 c h4 hc
theorem Ext.mu{rho rho':Nat->Option Nat}{H H':Heap}{w w':World}(h:Ext rho H w rho' H' w'):(mu rho H w).le (mu rho' H' w'):=⟨λb c⟨h1,h2⟩=>⟨YE h1 h.n,λha=>h.live _ _ (h2 (h.rC b h1 ha)) ha⟩,λc z⟨cs,e,fr,h1,h2⟩=>let⟨cs',e',fr',h3,h4⟩:=h.rows c cs e fr h1;⟨cs',e',fr',h3,h4.trans h2⟩⟩
theorem Ext.trans{r r1 r2:Nat->Option Nat}{H H1 H2:Heap}{w w1 w2:World}(hd:∀b c,r b=some c->b<H.n)(h:Ext r H w r1 H1 w1)(k:Ext r1 H1 w1 r2 H2 w2):Ext r H w r2 H2 w2 where
 n:=Yr h.n k.n;bD:=Yr k.bD h.bD;size:=Yr h.size k.size;bU b hb hw:=by obtain⟨a1,a2⟩:=h.bU b hb (YE hw k.bD);obtain⟨b1,b2⟩:=k.bU b (YE hb h.n) hw;exact⟨b1.trans a1,b2.trans a2⟩
 old b c hb hr:=h.old b c hb (k.old b c (YE hb h.n) hr);live b c hr ha:=by have hb:b<H1.n:=YE (hd b c hr) h.n;exact k.live b c (h.live b c hr (k.rC b hb ha)) ha
 rC b hb ha:=h.rC b hb (k.rC b (YE hb h.n) ha);new b c hb hr:=by
  by_cases hb1:b<H1.n
  .rcases h.new b c hb (k.old b c hb1 hr)with h'|⟨b0,h1,h2⟩;.exact YF h'
   .exact YD ⟨b0,h1,Yr k.bD h2⟩
  .rcases k.new b c (by omega) hr with h'|⟨b0,h1,h2⟩;.exact YF (Yr h.size h')
   .by_cases hb0:b0<H.n;.exact YD ⟨b0,h.old b0 c hb0 h1,h2⟩
    .rcases h.new b0 c (by omega) h1 with h'|⟨b1,h3,h4⟩;.exact YF h'
     .exact YD ⟨b1,h3,Yr k.bD h4⟩
 fr c hc hb:=by
  refine(k.fr c (YE hc h.size) λb hr=>?_).trans (h.fr c hc λb hr=>YE (hb b hr) k.bD);by_cases hb0:b<H.n;.exact hb b (h.old b c hb0 hr)
  .rcases h.new b c (by omega) hr with h'|⟨b1,h3,h4⟩;.omega
   .have:=hb b1 h3;have:=k.bD;omega
 rows c cs e fr hc:=by obtain⟨cs',e',fr',h1,h2⟩:=h.rows c cs e fr hc;obtain⟨cs2,e2,fr2,h3,h4⟩:=k.rows c cs' e' fr' h1;exact⟨cs2,e2,fr2,h3,h4.trans h2⟩
 loops c r hc:=by obtain⟨r',h1⟩:=h.loops c r hc;exact k.loops c r' h1
 marks b hb:=by obtain⟨a1,a2,a3⟩:=h.marks b hb;obtain⟨b1,b2,b3⟩:=k.marks b a1;exact⟨b1,b2.trans a2,λc hc=>(b3 c (a2.trans hc)).trans (a3 c hc)⟩
section
variable{P:Program}{base:Nat}{w0 w w':World}{rho:Nat->Option Nat}{H H':Heap}
theorem PR.lt(h:PR P base w0 rho H w):∀b c,rho b=some c->b<H.n:=λb c hr=>(h.j8 b c hr).1
theorem PR.drawn(h:PR P base w0 rho H w)(n:Nat):PR P base w0 rho H {w with drawn:=n}where below:=⟨h.below.os,h.below.tape,h.below.output,h.below.size,h.below.block⟩;de:=h.de;wn:=h.wn;j8:=h.j8;inj:=h.inj;cQ:=h.cQ;out:=h.out;gl:=⟨wQ h.gl.1 λ_ _=>rfl,h.gl.2⟩
theorem pH(h:Below base w0 w)(hos:w'.os=w.os)(htape:w'.tape=w.tape)(hout:w'.output=w.output)(hsz:w.heap.size<=w'.heap.size)(hb:∀k,k<base->w'.heap[k]?=w.heap[k]?):Below base w0 w':=⟨hos.trans h.os,htape.trans h.tape,hout.trans h.output,Yr h.size hsz,λk hk=>(hb k hk).trans (h.block k hk)⟩
theorem PR.KL(h:PR P base w0 rho H w)(hn:H'.n=H.n)(ht:∀b,H'.get b=H.get b)(hw:H'.bD<=H'.n):PR P base w0 rho H' w:=by have hm:(mu rho H w).le (mu rho H' w):=⟨λb c hm=>⟨by rw[hn];exact hm.1,by rw[ht];exact hm.2⟩,λ_ _ h=>h⟩;exact⟨h.below,h.de,hw,λb c hr=>by rw[hn,ht];exact h.j8 b c hr,h.inj,λb c hr=>by obtain⟨o,h1,h2⟩:=h.cQ b c hr;rw[ht];exact⟨o,h1,h2.mono hm⟩,λb hb=>by rw[ht];exact h.out b (by omega),h.gl⟩
structure xq(w w':World):Prop where
 os:w'.os=w.os
 tape:w'.tape=w.tape
 output:w'.output=w.output
theorem PR.alloc(h:PR P base w0 rho H w){bl:eN}{o:Obj}(hn:H'.n=H.n+1)(hw:H'.bD=H.bD)(hg:H'.get H.n=bl)(ho:∀j,j≠H.n->H'.get j=H.get j)(ha:bl.alive)(hs:xq w w')(hsz:w'.heap.size=w.heap.size+1)(hnew:w'.heap[w.heap.size]?=some o)(hold:∀j,j<w.heap.size->w'.heap[j]?=w.heap[j]?)(hb:BR P (mu rho H w) bl o):PR P base w0 (λb=>if b=H.n then some w.heap.size else rho b) H' w'/\Ext rho H w (λb=>if b=H.n then some w.heap.size else rho b) H' w':=by
 have hlt:=h.lt;have hE:Ext rho H w (λb=>if b=H.n then some w.heap.size else rho b) H' w':=by
  refine⟨by omega,by omega,by omega,λb hb _=>⟨ho b (by omega),by simp[Qn hb]⟩,λb c hb hr=>?_,λb c hr _=>?_,λb hb hal=>?_,λb c hb hr=>?_,λc hc _=>hold c hc,λb hm=>?_,λc cs e fr hc=>⟨cs,e,fr,(hold c (YO.1 hc).1).trans hc,rfl⟩,λc r hc=>⟨r,(hold c (YO.1 hc).1).trans hc⟩⟩;.simpa[Qn hb]using hr
  .have:=hlt b c hr;simp[Qn this,hr]
  .rwa[ho b (by omega)]at hal
  .by_cases hb':b=H.n;.simp[hb']at hr;omega
   .simp[hb']at hr;have:=hlt b c hr;omega
  .have hb':b≠H.n:=λe=>by subst e;rw[h.out H.n (YC _)]at hm;cases hm
   exact⟨(ho b hb').trans hm,by simp[hb'],λc hc=>hold c (h.j8 b c hc).2.2.1⟩
 refine⟨⟨pH h.below hs.os hs.tape hs.output (by omega) λk hk=>hold k (by have:=h.de;omega),by have:=h.de;omega,by have:=h.wn;omega,λb c hr=>?_,λb b' c hr hr'=>?_,λb c hr=>?_,λb hb'=>?_,h.gl.step hE⟩,hE⟩
 .by_cases hb':b=H.n;.subst hb';simp at hr;subst hr;exact⟨by omega,h.de,by omega,by rw[hg];exact ha⟩
  .simp[hb']at hr;obtain⟨h1,h2,h3,h4⟩:=h.j8 b c hr;exact⟨by omega,h2,by omega,by rw[ho b hb'];exact h4⟩
 .by_cases h1:b=H.n<;>by_cases h2:b'=H.n<;>simp[h1,h2]at hr hr';.omega
  .have:=(h.j8 b' c hr').2.2.1;omega
  .have:=(h.j8 b c hr).2.2.1;omega
  .exact h.inj b b' c hr hr'
 .by_cases hb':b=H.n;.subst hb';simp at hr;subst hr;exact⟨o,hnew,by rw[hg];exact hb.mono hE.mu⟩
  .simp[hb']at hr;obtain⟨o',h1,h2⟩:=h.cQ b c hr;refine⟨o',(hold c (h.j8 b c hr).2.2.1).trans h1,?_⟩;rw[ho b hb'];exact h2.mono hE.mu
 .rw[ho b (by omega)];exact h.out b (by omega)
theorem PR.write(h:PR P base w0 rho H w){b c:Nat}{bl:eN}{o:Obj}(hr:rho b=some c)(hnm:H.get b≠.mark)(hn:H'.n=H.n)(hw:H'.bD<=H.bD)(hwb:H'.bD<=b)(hg:H'.get b=bl)(ho:∀j,j≠b->H'.get j=H.get j)(ha:bl.alive)(hs:xq w w')(hsz:w'.heap.size=w.heap.size)(hnew:w'.heap[c]?=some o)(hold:∀j,j≠c->w'.heap[j]?=w.heap[j]?)(hb:BR P (mu rho H w) bl o)(hz:∀cs e fr,w.heap[c]?=some (.cells cs e fr)->∃cs' e' fr',o=.cells cs' e' fr'/\cs'.size=cs.size)(hlp:∀r,w.heap[c]?=some (.loop r)->∃r',o=.loop r'):PR P base w0 rho H' w'/\Ext rho H w rho H' w':=by
 have hlt:=h.lt;have hd:=h.j8 b c hr;have hE:Ext rho H w rho H' w':=by
  refine⟨by omega,hw,by omega,λj hj hjw=>⟨ho j (by omega),rfl⟩,λ_ _ _ h=>h,λ_ _ h _=>h,λj hj hal=>?_,λj c' hj hr'=>?_,λj hj hjw=>hold j λe=>?_,λj hm=>⟨(ho j λe=>by subst e;exact hnm hm).trans hm,rfl,λc1 hc1=>hold c1 λe=>hnm (by subst e;rw[<-h.inj j b c1 hc1 hr];exact hm)⟩,λj cs e fr hj=>?_,λj r hj=>?_⟩
  .by_cases hjb:j=b;.subst hjb;exact hd.2.2.2
   .rwa[ho j hjb]at hal
  .have:=hlt j c' hr';omega
  .subst e;have:=hjw b hr;omega
  .by_cases hjc:j=c;.subst hjc;obtain⟨cs',e',fr',h1,h2⟩:=hz cs e fr hj;exact⟨cs',e',fr',by rw[hnew,h1],h2⟩
   .exact⟨cs,e,fr,(hold j hjc).trans hj,rfl⟩
  .by_cases hjc:j=c;.subst hjc;obtain⟨r',h1⟩:=hlp r hj;exact⟨r',by rw[hnew,h1]⟩
   .exact⟨r,(hold j hjc).trans hj⟩
 refine⟨⟨pH h.below hs.os hs.tape hs.output (by omega) λk hk=>hold k (by omega),by have:=h.de;omega,by have:=h.wn;omega,λj c' hr'=>?_,h.inj,λj c' hr'=>?_,λj hj=>?_,h.gl.step hE⟩,hE⟩
 .obtain⟨h1,h2,h3,h4⟩:=h.j8 j c' hr';refine⟨by omega,h2,by omega,?_⟩;by_cases hjb:j=b;.subst hjb;rw[hg];exact ha
  .rw[ho j hjb];exact h4
 .by_cases hjb:j=b;.subst hjb;rw[hr]at hr';cases hr';exact⟨o,hnew,by rw[hg];exact hb.mono hE.mu⟩
  .obtain⟨o',h1,h2⟩:=h.cQ j c' hr';refine⟨o',(hold c' λe=>hjb (h.inj j b c' hr' (e▸hr))).trans h1,?_⟩;rw[ho j hjb];exact h2.mono hE.mu
 .rw[ho j (by omega)];exact h.out j (by omega)
theorem PR.move(h:PR P base w0 rho H w){b c c':Nat}{bl:eN}{o:Obj}(hr:rho b=some c)(hnm:H.get b≠.mark)(hn:H'.n=H.n+1)(hw:H'.bD<=H.bD)(hwb:H'.bD<=b)(hd:H'.get b=.dead)(hg:H'.get H.n=bl)(ho:∀j,j≠b->j≠H.n->H'.get j=H.get j)(ha:bl.alive)(hs:xq w w')(hsz:w.heap.size<=w'.heap.size)(hc':c'=c\/w.heap.size<=c')(hc'':c'<w'.heap.size)(hnew:w'.heap[c']?=some o)(hold:∀j,j<w.heap.size->j≠c->w'.heap[j]?=w.heap[j]?)(hb:BR P (mu rho H w) bl o)(hz:∀cs e fr,w.heap[c]?=some (.cells cs e fr)->∃cs' e' fr',w'.heap[c]?=some (.cells cs' e' fr')/\cs'.size=cs.size)(hlp:∀r,w.heap[c]?=some (.loop r)->False):PR P base w0 (λj=>if j=H.n then some c' else if j=b then none else rho j) H' w'/\Ext rho H w (λj=>if j=H.n then some c' else if j=b then none else rho j) H' w':=by
 have hlt:=h.lt;have hdm:=h.j8 b c hr;have hbn:b≠H.n:=by omega
 have hE:Ext rho H w (λj=>if j=H.n then some c' else if j=b then none else rho j) H' w':=by
  refine⟨by omega,hw,hsz,λj hj hjw=>⟨ho j (by omega) (by omega),(λ(hjb:j≠b)=>by simp[Qn hj,hjb]) (by omega)⟩,λj c1 hj h1=>?_,λj c1 h1 hal=>?_,λj hj hal=>?_,λj c1 hj h1=>?_,λj hj hjw=>hold j hj λe=>?_,λj hm=>?_,λj cs e fr hj=>?_,λj r hj=>⟨r,(hold j (YO.1 hj).1 λe=>hlp r (e▸hj)).trans hj⟩⟩
  .simp only[Qn hj,if_false]at h1;split at h1;.cases h1
   .exact h1
  .have h2:=hlt j c1 h1;by_cases hjb:j=b;.subst hjb;rw[hd]at hal;exact hal.elim
   .simp[Qn h2,hjb,h1]
  .by_cases hjb:j=b;.subst hjb;exact hdm.2.2.2
   .rwa[ho j hjb (by omega)]at hal
  .by_cases hjn:j=H.n
   .simp[hjn]at h1;subst h1;rcases hc' with e|e;.exact YD ⟨b,e▸hr,hwb⟩
    .exact YF e
   .by_cases hjb:j=b;.omega
    .simp[hjn,hjb]at h1;have:=hlt j c1 h1;omega
  .subst e;have:=hjw b hr;omega
  .have h1:j≠H.n:=λe=>by subst e;rw[h.out H.n (YC _)]at hm;cases hm
   have h2:j≠b:=λe=>by subst e;exact hnm hm
   exact⟨(ho j h2 h1).trans hm,by simp[h1,h2],λc1 hc1=>hold c1 (h.j8 j c1 hc1).2.2.1 λe=>h2 (h.inj j b c1 hc1 (e▸hr))⟩
  .by_cases hjc:j=c;.subst hjc;exact hz cs e fr hj
   .exact⟨cs,e,fr,(hold j (YO.1 hj).1 hjc).trans hj,rfl⟩
 refine⟨⟨pH h.below hs.os hs.tape hs.output hsz λk hk=>hold k (by have:=h.de;omega) (by omega),by have:=h.de;omega,by have:=h.wn;omega,λj c1 hr'=>?_,λj j' c1 hr1 hr2=>?_,λj c1 hr'=>?_,λj hj=>?_,h.gl.step hE⟩,hE⟩
 .by_cases hjn:j=H.n
  .simp[hjn]at hr';subst hr';subst hjn;refine⟨by omega,?_,hc'',by rw[hg];exact ha⟩;rcases hc' with e|e;.omega
   .have:=h.de;omega
  .by_cases hjb:j=b;.simp[hjb,hbn]at hr'
   .simp[hjn,hjb]at hr';obtain⟨h1,h2,h3,h4⟩:=h.j8 j c1 hr';exact⟨by omega,h2,by omega,by rw[ho j hjb hjn];exact h4⟩
 .have key:∀j,j≠H.n->j≠b->rho j=some c'->False:=by
   intro j _ hj2 hj3;rcases hc' with e|e;.subst e;exact hj2 (h.inj j b c' hj3 hr)
   .have:=(h.j8 j c' hj3).2.2.1;omega
  by_cases h1:j=H.n<;>by_cases h2:j'=H.n;.omega
  .by_cases h3:j'=b;.simp[h3,hbn]at hr2
   .simp[h2,h3]at hr2;simp[h1]at hr1;subst hr1;exact(key j' h2 h3 hr2).elim
  .by_cases h3:j=b;.simp[h3,hbn]at hr1
   .simp[h1,h3]at hr1;simp[h2]at hr2;subst hr2;exact(key j h1 h3 hr1).elim
  .by_cases h3:j=b;.simp[h3,hbn]at hr1
   .by_cases h4:j'=b;.simp[h4,hbn]at hr2
    .simp[h1,h3]at hr1;simp[h2,h4]at hr2;exact h.inj j j' c1 hr1 hr2
 .by_cases hjn:j=H.n;.simp[hjn]at hr';subst hr';subst hjn;exact⟨o,hnew,by rw[hg];exact hb.mono hE.mu⟩
  .by_cases hjb:j=b;.simp[hjb,hbn]at hr'
   .simp[hjn,hjb]at hr';obtain⟨o',h1,h2⟩:=h.cQ j c1 hr';refine⟨o',(hold c1 (h.j8 j c1 hr').2.2.1 λe=>hjb (h.inj j b c1 hr' (e▸hr))).trans h1,?_⟩;rw[ho j hjb hjn];exact h2.mono hE.mu
 .rw[ho j (by omega) (by omega)];exact h.out j (by omega)
end
end Go.Ev
end
section
set_option maxRecDepth 100000
namespace Go.Ev
noncomputable def g80{α:Type}(t:N8 α)(k:α->R):R:=N8.rec (motive:=λ_=>R) (λa0 a1 a2 a3 a4 a5 a6 a7=>k a0) t
noncomputable def u80{α:Type}(t:N8 α)(f:α->(α->R)->R)(k:N8 α->R):R:=N8.rec (motive:=λ_=>R) (λa0 a1 a2 a3 a4 a5 a6 a7=>f a0 λx=>k (N8.mk x a1 a2 a3 a4 a5 a6 a7)) t
noncomputable def g81{α:Type}(t:N8 α)(k:α->R):R:=N8.rec (motive:=λ_=>R) (λa0 a1 a2 a3 a4 a5 a6 a7=>k a1) t
noncomputable def u81{α:Type}(t:N8 α)(f:α->(α->R)->R)(k:N8 α->R):R:=N8.rec (motive:=λ_=>R) (λa0 a1 a2 a3 a4 a5 a6 a7=>f a1 λx=>k (N8.mk a0 x a2 a3 a4 a5 a6 a7)) t
noncomputable def g82{α:Type}(t:N8 α)(k:α->R):R:=N8.rec (motive:=λ_=>R) (λa0 a1 a2 a3 a4 a5 a6 a7=>k a2) t
noncomputable def u82{α:Type}(t:N8 α)(f:α->(α->R)->R)(k:N8 α->R):R:=N8.rec (motive:=λ_=>R) (λa0 a1 a2 a3 a4 a5 a6 a7=>f a2 λx=>k (N8.mk a0 a1 x a3 a4 a5 a6 a7)) t
noncomputable def g83{α:Type}(t:N8 α)(k:α->R):R:=N8.rec (motive:=λ_=>R) (λa0 a1 a2 a3 a4 a5 a6 a7=>k a3) t
noncomputable def u83{α:Type}(t:N8 α)(f:α->(α->R)->R)(k:N8 α->R):R:=N8.rec (motive:=λ_=>R) (λa0 a1 a2 a3 a4 a5 a6 a7=>f a3 λx=>k (N8.mk a0 a1 a2 x a4 a5 a6 a7)) t
noncomputable def g84{α:Type}(t:N8 α)(k:α->R):R:=N8.rec (motive:=λ_=>R) (λa0 a1 a2 a3 a4 a5 a6 a7=>k a4) t
noncomputable def u84{α:Type}(t:N8 α)(f:α->(α->R)->R)(k:N8 α->R):R:=N8.rec (motive:=λ_=>R) (λa0 a1 a2 a3 a4 a5 a6 a7=>f a4 λx=>k (N8.mk a0 a1 a2 a3 x a5 a6 a7)) t
noncomputable def g85{α:Type}(t:N8 α)(k:α->R):R:=N8.rec (motive:=λ_=>R) (λa0 a1 a2 a3 a4 a5 a6 a7=>k a5) t
noncomputable def u85{α:Type}(t:N8 α)(f:α->(α->R)->R)(k:N8 α->R):R:=N8.rec (motive:=λ_=>R) (λa0 a1 a2 a3 a4 a5 a6 a7=>f a5 λx=>k (N8.mk a0 a1 a2 a3 a4 x a6 a7)) t
noncomputable def g86{α:Type}(t:N8 α)(k:α->R):R:=N8.rec (motive:=λ_=>R) (λa0 a1 a2 a3 a4 a5 a6 a7=>k a6) t
noncomputable def u86{α:Type}(t:N8 α)(f:α->(α->R)->R)(k:N8 α->R):R:=N8.rec (motive:=λ_=>R) (λa0 a1 a2 a3 a4 a5 a6 a7=>f a6 λx=>k (N8.mk a0 a1 a2 a3 a4 a5 x a7)) t
noncomputable def g87{α:Type}(t:N8 α)(k:α->R):R:=N8.rec (motive:=λ_=>R) (λa0 a1 a2 a3 a4 a5 a6 a7=>k a7) t
noncomputable def u87{α:Type}(t:N8 α)(f:α->(α->R)->R)(k:N8 α->R):R:=N8.rec (motive:=λ_=>R) (λa0 a1 a2 a3 a4 a5 a6 a7=>f a7 λx=>k (N8.mk a0 a1 a2 a3 a4 a5 a6 x)) t
noncomputable def g8{α:Type}(i:I8):N8 α->(α->R)->R:=I8.rec (motive:=λ_=>N8 α->(α->R)->R) g80 g81 g82 g83 g84 g85 g86 g87 i
noncomputable def u8{α:Type}(i:I8):N8 α->(α->(α->R)->R)->(N8 α->R)->R:=I8.rec (motive:=λ_=>N8 α->(α->(α->R)->R)->(N8 α->R)->R) u80 u81 u82 u83 u84 u85 u86 u87 i
noncomputable def kE(s:Slot)(e:Env)(k:V->R):R:=Slot.rec (motive:=λ_=>R) (λa b c=>g8 a e λt=>g8 b t λu=>g8 c u k) s
noncomputable def KU(s:Slot)(v:V)(e:Env)(k:Env->R):R:=Slot.rec (motive:=λ_=>R) (λa b c=>u8 a e (λt k1=>u8 b t (λu k2=>u8 c u (λ_ k3=>k3 v) k2) k1) k) s
noncomputable def aJ(a:Arg)(e:Env)(k:V->R):R:=Arg.rec (motive:=λ_=>R) (λs=>kE s e k) (λv=>k v) a
noncomputable def pT(l:List Arg)(e:Env):(List V->R)->R:=List.rec (motive:=λ_=>(List V->R)->R) (λk=>k []) (λa _ ih k=>aJ a e λv=>ih λr=>k (v::r)) l
noncomputable def av(n:Nat)(k:Nat->R):R:=Nat.rec (motive:=λ_=>R) (k Nat.zero) (λm _=>k (WQ m)) n
noncomputable def aH(c:Bool)(t f:R):R:=Bool.rec (motive:=λ_=>R) f t c
noncomputable def cI(id:Nat)(x:V)(k:Nat->Nat->R):R:=V.rec (motive_1:=λ_=>R) (motive_2:=λ_=>R) (k) (λ_=>no 0) (λ_ _=>no 0) (λ_ _=>no 0) (no 0) (λ_ _ _ _ _=>no 0) (no 0) (λ_=>no 0) (no 0) (λ_ _ _=>no 0) (λ_=>no 0) (no 0) (λ_ _ _=>no 0) (no 0) (λ_ _=>no 0) (λ_ _=>no 0) (0:R) (λ_ _ _ _=>(0:R)) x
noncomputable def fm(id:Nat)(x:V)(k:Bool->R):R:=V.rec (motive_1:=λ_=>R) (motive_2:=λ_=>R) (λ_ _=>no 0) (k) (λ_ _=>no 0) (λ_ _=>no 0) (no 0) (λ_ _ _ _ _=>no 0) (no 0) (λ_=>no 0) (no 0) (λ_ _ _=>no 0) (λ_=>no 0) (no 0) (λ_ _ _=>no 0) (no 0) (λ_ _=>no 0) (λ_ _=>no 0) (0:R) (λ_ _ _ _=>(0:R)) x
noncomputable def er(id:Nat)(x:V)(k:Nat->Nat->R):R:=V.rec (motive_1:=λ_=>R) (motive_2:=λ_=>R) (λ_ _=>no 0) (λ_=>no 0) (k) (λ_ _=>no 0) (no 0) (λ_ _ _ _ _=>no 0) (no 0) (λ_=>no 0) (no 0) (λ_ _ _=>no 0) (λ_=>no 0) (no 0) (λ_ _ _=>no 0) (no 0) (λ_ _=>no 0) (λ_ _=>no 0) (0:R) (λ_ _ _ _=>(0:R)) x
noncomputable def eH(id:Nat)(x:V)(k:Nat->Nat->R):R:=V.rec (motive_1:=λ_=>R) (motive_2:=λ_=>R) (λ_ _=>no 0) (λ_=>no 0) (λ_ _=>no 0) (k) (no 0) (λ_ _ _ _ _=>no 0) (no 0) (λ_=>no 0) (no 0) (λ_ _ _=>no 0) (λ_=>no 0) (no 0) (λ_ _ _=>no 0) (no 0) (λ_ _=>no 0) (λ_ _=>no 0) (0:R) (λ_ _ _ _=>(0:R)) x
noncomputable def mF(id:Nat)(x:V)(k:Nat->Nat->Nat->Nat->Nat->R):R:=V.rec (motive_1:=λ_=>R) (motive_2:=λ_=>R) (λ_ _=>no 0) (λ_=>no 0) (λ_ _=>no 0) (λ_ _=>no 0) (no 0) (k) (no 0) (λ_=>no 0) (no 0) (λ_ _ _=>no 0) (λ_=>no 0) (no 0) (λ_ _ _=>no 0) (no 0) (λ_ _=>no 0) (λ_ _=>no 0) (0:R) (λ_ _ _ _=>(0:R)) x
noncomputable def bC(id:Nat)(x:V)(k:Nat->Nat->Nat->Nat->Nat->R)(z:R):R:=V.rec (motive_1:=λ_=>R) (motive_2:=λ_=>R) (λ_ _=>no 0) (λ_=>no 0) (λ_ _=>no 0) (λ_ _=>no 0) (no 0) (k) (z) (λ_=>no 0) (no 0) (λ_ _ _=>no 0) (λ_=>no 0) (no 0) (λ_ _ _=>no 0) (no 0) (λ_ _=>no 0) (λ_ _=>no 0) (0:R) (λ_ _ _ _=>(0:R)) x
noncomputable def ve(id:Nat)(x:V)(k:Nat->R):R:=V.rec (motive_1:=λ_=>R) (motive_2:=λ_=>R) (λ_ _=>no 0) (λ_=>no 0) (λ_ _=>no 0) (λ_ _=>no 0) (no 0) (λ_ _ _ _ _=>no 0) (no 0) (k) (no 0) (λ_ _ _=>no 0) (λ_=>no 0) (no 0) (λ_ _ _=>no 0) (no 0) (λ_ _=>no 0) (λ_ _=>no 0) (0:R) (λ_ _ _ _=>(0:R)) x
noncomputable def rG(id:Nat)(x:V)(k:Nat->R)(z:R):R:=V.rec (motive_1:=λ_=>R) (motive_2:=λ_=>R) (λ_ _=>no 0) (λ_=>no 0) (λ_ _=>no 0) (λ_ _=>no 0) (no 0) (λ_ _ _ _ _=>no 0) (no 0) (k) (z) (λ_ _ _=>no 0) (λ_=>no 0) (no 0) (λ_ _ _=>no 0) (no 0) (λ_ _=>no 0) (λ_ _=>no 0) (0:R) (λ_ _ _ _=>(0:R)) x
noncomputable def Ab(id:Nat)(x:V)(k:Nat->List V->R):R:=V.rec (motive_1:=λ_=>R) (motive_2:=λ_=>R) (λ_ _=>no 0) (λ_=>no 0) (λ_ _=>no 0) (λ_ _=>no 0) (no 0) (λ_ _ _ _ _=>no 0) (no 0) (λ_=>no 0) (no 0) (λf l _=>k f l) (λ_=>no 0) (no 0) (λ_ _ _=>no 0) (no 0) (λ_ _=>no 0) (λ_ _=>no 0) (0:R) (λ_ _ _ _=>(0:R)) x
noncomputable def js(id:Nat)(x:V)(k:List V->R):R:=V.rec (motive_1:=λ_=>R) (motive_2:=λ_=>R) (λ_ _=>no 0) (λ_=>no 0) (λ_ _=>no 0) (λ_ _=>no 0) (no 0) (λ_ _ _ _ _=>no 0) (no 0) (λ_=>no 0) (no 0) (λ_ _ _=>no 0) (λ_=>no 0) (no 0) (λ_ _ _=>no 0) (no 0) (λl _=>k l) (λ_ _=>no 0) (0:R) (λ_ _ _ _=>(0:R)) x
noncomputable def vIf(id t:Nat)(x:V)(k:V->R):R:=V.rec (motive_1:=λ_=>R) (motive_2:=λ_=>R) (λ_ _=>no 0) (λ_=>no 0) (λ_ _=>no 0) (λ_ _=>no 0) (no 0) (λ_ _ _ _ _=>no 0) (no 0) (λ_=>no 0) (no 0) (λ_ _ _=>no 0) (λ_=>no 0) (no 0) (λt' v _=>aH (YR t' t) (k v) (no 0)) (no 0) (λ_ _=>no 0) (λ_ _=>no 0) (0:R) (λ_ _ _ _=>(0:R)) x
noncomputable def AU(id:Nat)(x:V)(k:List V->R):R:=V.rec (motive_1:=λ_=>R) (motive_2:=λ_=>R) (λ_ _=>no 0) (λ_=>no 0) (λ_ _=>no 0) (λ_ _=>no 0) (no 0) (λ_ _ _ _ _=>no 0) (no 0) (λ_=>no 0) (no 0) (λ_ _ _=>no 0) (λ_=>no 0) (no 0) (λ_ _ _=>no 0) (no 0) (λ_ _=>no 0) (λl _=>k l) (0:R) (λ_ _ _ _=>(0:R)) x
noncomputable def nth(id:Nat)(l:List V):Nat->(V->R)->R:=List.rec (motive:=λ_=>Nat->(V->R)->R) (λ_ _=>no 0) (λv _ ih i k=>Nat.rec (motive:=λ_=>R) (k v) (λj _=>ih j k) i) l
noncomputable def takeN(id:Nat)(l:List V):Nat->(List V->R)->R:=List.rec (motive:=λ_=>Nat->(List V->R)->R) (λi k=>Nat.rec (motive:=λ_=>R) (k []) (λ_ _=>no 0) i) (λv _ ih i k=>Nat.rec (motive:=λ_=>R) (k []) (λj _=>ih j λr=>k (v::r)) i) l
noncomputable def fR(id:Nat)(l:List V):Nat->(List V->R)->R:=List.rec (motive:=λ_=>Nat->(List V->R)->R) (λi k=>Nat.rec (motive:=λ_=>R) (k []) (λ_ _=>no 0) i) (λv l ih i k=>Nat.rec (motive:=λ_=>R) (k (v::l)) (λj _=>ih j k) i) l
noncomputable def kB(l m:List V):(List V->R)->R:=List.rec (motive:=λ_=>(List V->R)->R) (λk=>k m) (λv _ ih k=>ih λr=>k (v::r)) l
noncomputable def over(id:Nat)(m:List V):List V->(List V->R)->R:=List.rec (motive:=λ_=>List V->(List V->R)->R) (λl k=>k l) (λx _ ih l k=>List.rec (motive:=λ_=>R) (no 0) (λ_ r _=>ih r λq=>k (x::q)) l) m
noncomputable def setAt(id:Nat)(m l:List V):Nat->(List V->R)->R:=List.rec (motive:=λ_=>Nat->(List V->R)->R) (λi k=>Nat.rec (motive:=λ_=>R) (over id m [] k) (λ_ _=>no 0) i) (λv l ih i k=>Nat.rec (motive:=λ_=>R) (over id m (v::l) k) (λj _=>ih j λr=>k (v::r)) i) l
noncomputable def fU(l:List V):Nat:=List.rec (motive:=λ_=>Nat) 0 (λ_ _ ih=>WQ ih) l
noncomputable def ZQ(m:List V)(n:Nat):(List V->R)->R:=Nat.rec (motive:=λ_=>(List V->R)->R) (λk=>k []) (λ_ ih k=>ih λr=>kB m r k) n
noncomputable def ef(id:Nat)(x:V)(k:R):R:=V.rec (motive_1:=λ_=>R) (motive_2:=λ_=>R) (λ_ _=>k) (λ_=>k) (λ_ _=>k) (λ_ _=>k) (k) (λ_ _ _ _ _=>k) (k) (λ_=>k) (k) (λ_ _ _=>k) (λ_=>k) (k) (λ_ _ _=>k) (k) (λ_ _=>no 0) (λ_ _=>no 0) (0:R) (λ_ _ _ _=>(0:R)) x
noncomputable def bB(id:Nat)(l:List V)(k:R):R:=List.rec (motive:=λ_=>R) k (λv _ ih=>ef id v ih) l
noncomputable def iV(id:Nat)(l:List V):(Nat->Nat->R)->R:=List.rec (motive:=λ_=>(Nat->Nat->R)->R) (λk=>k 0 0) (λv _ ih k=>cI id v λkd x=>aH (YR kd 4) (ih λlen n=>av (Yi x (Yn 256 n)) λn'=>av (WQ len) λlen'=>k len' n') (no 0)) l
noncomputable def qW(len:Nat):Nat->(List V->R)->R:=Nat.rec (motive:=λ_=>Nat->(List V->R)->R) (λ_ k=>k []) (λ_ ih n k=>av (Yx n 256) λx=>av (Wo n 256) λn'=>ih n' λr=>k (.int 4 x::r)) len
noncomputable def dU(id:Nat)(x:V)(k:List V->R):R:=V.rec (motive_1:=λ_=>R) (motive_2:=λ_=>R) (λkd n=>k [.int kd n]) (λb=>k [.bool b]) (λl n=>k [.str l n]) (λb o=>k [.ptr b o]) (k [.ny]) (λb o l c s=>k [.slice b o l c s]) (k [.aE]) (λb=>k [.map b]) (k [.wK]) (λf l ih=>k [.func f l]) (λb=>k [.rH b]) (k [.rj]) (λt v ih=>k [.iface t v]) (k [.Hm]) (λl _=>k l) (λ_ _=>no 0) (0:R) (λ_ _ _ _=>(0:R)) x
noncomputable def vt(id:Nat)(b:eN)(kc:List V->R)(kb:Nat->Nat->R):R:=eN.rec (motive:=λ_=>R) (no 0) kc kb (λ_=>no 0) (no 0) (λ_ _ _ _ _ _=>no 0) (λ_=>no 0) b
noncomputable def bRd(id:Nat)(b:eN)(kc:List V->R)(kb:Nat->Nat->R)(kv:List V->R):R:=eN.rec (motive:=λ_=>R) (no 0) kc kb (λ_=>no 0) (no 0) (λ_ _ _ _ _ _=>no 0) kv b
noncomputable def kX(id:Nat)(b:eN)(km:List (V×V)->R):R:=eN.rec (motive:=λ_=>R) (no 0) (λ_=>no 0) (λ_ _=>no 0) km (no 0) (λ_ _ _ _ _ _=>no 0) (λ_=>no 0) b
noncomputable def eA(b:eN)(k:Nat->Nat->Env->List Slot->RC->RC->R):R:=eN.rec (motive:=λ_=>R) (no 9) (λ_=>no 9) (λ_ _=>no 9) (λ_=>no 9) (no 9) k (λ_=>no 9) b
noncomputable def cR(H:Heap)(b:Nat)(k:eN->R):R:=Heap.rec (motive:=λ_=>R) (λ_ _ t=>k (HT.get t b)) H
noncomputable def cJ(id:Nat)(H:Heap)(b:Nat)(x:eN)(k:Heap->R):R:=Heap.rec (motive:=λ_=>R) (λn bD t=>aH (WC b n) (HT.set x t b λt'=>aH (Yd bD b) (k (.mk n bD t')) (k (.mk n b t'))) (no 0)) H
noncomputable def cN(H:Heap)(x:eN)(k:Nat->Heap->R):R:=Heap.rec (motive:=λ_=>R) (λn bD t=>HT.set x t n λt'=>av (WQ n) λn'=>k n (.mk n' bD t')) H
noncomputable def oQ(id:Nat)(H:Heap)(b off:Nat)(k:V->R):R:=cR H b λbl=>vt id bl (λl=>nth id l off k) λlen n=>aH (WC off len) (av (YB4 (WD n (Yn 8 off)) 255) λx=>k (.int 4 x)) (no 0)
noncomputable def MI(id:Nat)(H:Heap)(b off:Nat)(k:V->R):R:=cR H b λbl=>bRd id bl (λl=>nth id l off k) (λlen n=>aH (WC off len) (av (YB4 (WD n (Yn 8 off)) 255) λx=>k (.int 4 x)) (no 0)) λl=>nth id l off λv=>ef id v (k v)
noncomputable def HG(id:Nat)(H:Heap)(b off n:Nat)(k:List V->R):R:=cR H b λbl=>bRd id bl (λl=>fR id l off λr=>takeN id r n k) (λlen x=>aH (Yd (Yi off n) len) (qW n (WD x (Yn 8 off)) k) (no 0)) λl=>fR id l off λr=>takeN id r n λq=>bB id q (k q)
noncomputable def fi(id:Nat)(H:Heap)(b off n:Nat)(k:List V->R):R:=cR H b λbl=>vt id bl (λl=>fR id l off λr=>takeN id r n k) λlen x=>aH (Yd (Yi off n) len) (qW n (WD x (Yn 8 off)) k) (no 0)
noncomputable def nv(id:Nat)(H:Heap)(b off n:Nat)(k:Nat->R):R:=cR H b λbl=>vt id bl (λl=>fR id l off λr=>takeN id r n λq=>iV id q λ_ x=>k x) λlen x=>aH (Yd (Yi off n) len) (av (Yx (WD x (Yn 8 off)) (YE3 256 n)) k) (no 0)
noncomputable def ei(id:Nat)(H:Heap)(b off:Nat)(m:List V)(k:Heap->R):R:=cR H b λbl=>vt id bl (λl=>bB id m (setAt id m l off λl'=>cJ id H b (.cells l') k)) λlen x=>iV id m λml mx=>aH (Yd (Yi off ml) len) (av (Yi (Yx x (YE3 256 off)) (Yt (Yi mx (Yt (WD x (Yn 8 (Yi off ml))) (Yn 8 ml))) (Yn 8 off))) λx'=>cJ id H b (.bytes len x') k) (no 0)
noncomputable def iE(id:Nat)(f:BF):Nat->Nat->(Nat->R)->R:=BF.rec (motive:=λ_=>Nat->Nat->(Nat->R)->R) (λm a b k=>av (Yx (Yi a b) m) k) (λm a b k=>av (Yx (Yi a (QO m b)) m) k) (λm a b k=>av (Yx (Yn a b) m) k) (λa b k=>av (YB4 a b) k) (λa b k=>av (Nat.lor a b) k) (λa b k=>av (YQ1 a b) k) (λm a b k=>av (YB4 a (YQ1 b (Nat.pred m))) k) (λm bits a b k=>aH (Yd b bits) (av (Yx (Yt a b) m) k) (aH (WC b 9223372036854775808) (k 0) (no 0))) (λhalf bits a b k=>aH (WC a half) (aH (Yd b bits) (av (WD a b) k) (aH (WC b 9223372036854775808) (k 0) (no 0))) (no 0)) (λhalf a b k=>aH (WC a half) (aH (WC b half) (aH (YR b 0) (no 0) (av (Wo a b) k)) (no 0)) (no 0)) (λhalf a b k=>aH (WC a half) (aH (WC b half) (aH (YR b 0) (no 0) (av (Yx a b) k)) (no 0)) (no 0)) f
noncomputable def ej(f:CF):Nat->Nat->Bool:=CF.rec (motive:=λ_=>Nat->Nat->Bool) (λa b=>YR a b) (λa b=>Bool.rec true false (YR a b)) (λo m a b=>WC (Yx (Yi a o) m) (Yx (Yi b o) m)) (λo m a b=>Yd (Yx (Yi a o) m) (Yx (Yi b o) m)) (λo m a b=>WC (Yx (Yi b o) m) (Yx (Yi a o) m)) (λo m a b=>Yd (Yx (Yi b o) m) (Yx (Yi a o) m)) f
abbrev K:=V->Heap->R
abbrev dz:=V->List V->Heap->K->R
noncomputable def ahG(id:Nat)(ph:dz)(e:Env)(H:Heap)(k:K):R:=no 0
noncomputable def ahH(x:Arg)(id:Nat)(ph:dz)(e:Env)(H:Heap)(k:K):R:=aJ x e λv=>k v H
noncomputable def ae7(c x y:Arg)(id:Nat)(ph:dz)(e:Env)(H:Heap)(k:K):R:=aJ c e λc=>fm id c λb=>aH b (aJ x e λv=>k v H) (aJ y e λv=>k v H)
noncomputable def ae6(z:List V)(id:Nat)(ph:dz)(e:Env)(H:Heap)(k:K):R:=cN H (.cells z) λn H=>k (.ptr n 0) H
noncomputable def ae5(n:Nat)(id:Nat)(ph:dz)(e:Env)(H:Heap)(k:K):R:=cN H (.bytes n 0) λn H=>k (.ptr n 0) H
noncomputable def Ts(x:Arg)(id:Nat)(ph:dz)(e:Env)(H:Heap)(k:K):R:=aJ x e λv=>dU id v λl=>bB id l (cN H (.cells l) λn H=>k (.ptr n 0) H)
noncomputable def lj(id:Nat)(e:Env)(parts:List (Nat×Nat×Arg)):List V->(List V->R)->R:=List.rec (motive:=λ_=>List V->(List V->R)->R) (λz k=>k z) (λp _ ih z k=>YH2 (motive:=λ_=>R) (λoff q=>YH2 (motive:=λ_=>R) (λsize a=>aJ a e λv=>dU id v λl=>aH (YR (fU l) size) (setAt id l z off λz'=>ih z' k) (no 0)) q) p) parts
noncomputable def Tt(zero:List V)(parts:List (Nat×Nat×Arg))(id:Nat)(ph:dz)(e:Env)(H:Heap)(k:K):R:=lj id e parts zero λl=>k (.agg l) H
noncomputable def CX(u8:Bool)(len:Nat)(zero:List V)(parts:List (Nat×Nat×Arg))(id:Nat)(ph:dz)(e:Env)(H:Heap)(k:K):R:=lj id e parts zero λl=>aH u8 (iV id l λln n=>cN H (.bytes ln n) λb H=>k (.slice b 0 len (WQ len) 0) H) (bB id l (cN H (.cells l) λb H=>k (.slice b 0 len (WQ len) 0) H))
noncomputable def rU(a:Arg)(id:Nat)(ph:dz)(e:Env)(H:Heap)(k:K):R:=aJ a e λa=>eH id a λb o=>MI id H b o λv=>k v H
noncomputable def rV(n:Nat)(a:Arg)(id:Nat)(ph:dz)(e:Env)(H:Heap)(k:K):R:=aJ a e λa=>eH id a λb o=>HG id H b o n λl=>k (.agg l) H
noncomputable def wW(a x:Arg)(id:Nat)(ph:dz)(e:Env)(H:Heap)(k:K):R:=aJ a e λa=>eH id a λb o=>aJ x e λx=>ef id x (ei id H b o [x] λH=>k (.cG []) H)
noncomputable def wX(n:Nat)(a x:Arg)(id:Nat)(ph:dz)(e:Env)(H:Heap)(k:K):R:=aJ a e λa=>eH id a λb o=>aJ x e λx=>js id x λl=>aH (YR (fU l) n) (ei id H b o l λH=>k (.cG []) H) (no 0)
noncomputable def Me(x:Arg)(id:Nat)(ph:dz)(e:Env)(H:Heap)(k:K):R:=aJ x e λv=>V.rec (motive_1:=λ_=>R) (motive_2:=λ_=>R) (λkd n=>k (.int kd n) H) (λb=>k (.bool b) H) (λl n=>k (.str l n) H) (λb o=>k (.ptr b o) H) (no 0) (λb o l c s=>k (.slice b o l c s) H) (k .aE H) (λb=>k (.map b) H) (k .wK H) (λf l ih=>k (.func f l) H) (λb=>k (.rH b) H) (no 0) (λt v ih=>k (.iface t v) H) (no 0) (λl ih=>k (.agg l) H) (λl ih=>k (.cG l) H) (0:R) (λ_ _ _ _=>(0:R)) v
noncomputable def Ol(kd ky:Nat)(f:BF)(x y:Arg)(id:Nat)(ph:dz)(e:Env)(H:Heap)(k:K):R:=aJ x e λx=>cI id x λk1 a=>aJ y e λy=>cI id y λk2 b=>aH (YR k1 kd) (aH (YR k2 ky) (iE id f a b λr=>k (.int kd r) H) (no 0)) (no 0)
noncomputable def acd(kd:Nat)(f:CF)(x y:Arg)(id:Nat)(ph:dz)(e:Env)(H:Heap)(k:K):R:=aJ x e λx=>cI id x λk1 a=>aJ y e λy=>cI id y λk2 b=>aH (YR k1 kd) (aH (YR k2 kd) (aH (ej f a b) (k (.bool true) H) (k (.bool false) H)) (no 0)) (no 0)
noncomputable def FQ(x y:Arg)(id:Nat)(ph:dz)(e:Env)(H:Heap)(k:K):R:=aJ x e λx=>er id x λl1 n1=>aJ y e λy=>er id y λl2 n2=>av (Yi l1 l2) λl=>aH (WC l 9223372036854775808) (av (Yi n1 (Yt n2 (Yn 8 l1))) λn=>k (.str l n) H) (no 0)
noncomputable def TL(neg:Bool)(x y:Arg)(id:Nat)(ph:dz)(e:Env)(H:Heap)(k:K):R:=aJ x e λx=>er id x λl1 n1=>aJ y e λy=>er id y λl2 n2=>aH (YR l1 l2) (aH (YR n1 n2) (aH neg (k (.bool false) H) (k (.bool true) H)) (k (.bool neg) H)) (k (.bool neg) H)
noncomputable def gS(id:Nat)(x:V)(k:Nat->R):R:=V.rec (motive_1:=λ_=>R) (motive_2:=λ_=>R) (λ_ _=>no 0) (λb=>aH b (k 2) (k 3)) (λ_ _=>no 0) (λ_ _=>k 11) (k 10) (λ_ _ _ _ _=>k 21) (k 20) (λ_=>k 31) (k 30) (λ_ _ _=>k 41) (λ_=>no 0) (k 40) (λ_ _ _=>k 51) (k 50) (λ_ _=>no 0) (λ_ _=>no 0) (0:R) (λ_ _ _ _=>(0:R)) x
noncomputable def XO(kc:Nat)(neg:Bool)(x y:Arg)(id:Nat)(ph:dz)(e:Env)(H:Heap)(k:K):R:=aJ x e λx=>gS id x λa=>aJ y e λy=>gS id y λb=>aH (YR (Wo a 10) kc) (aH (YR (Wo b 10) kc) (aH (YR a b) (aH (YR (Yx a 10) 1) (no 0) (aH neg (k (.bool false) H) (k (.bool true) H))) (k (.bool neg) H)) (no 0)) (no 0)
noncomputable def TF(x:Arg)(id:Nat)(ph:dz)(e:Env)(H:Heap)(k:K):R:=aJ x e λx=>fm id x λb=>aH b (k (.bool false) H) (k (.bool true) H)
noncomputable def JK(src dst mode c:Nat)(x:Arg)(id:Nat)(ph:dz)(e:Env)(H:Heap)(k:K):R:=aJ x e λx=>cI id x λk1 a=>aH (YR k1 src) (Nat.rec (motive:=λ_=>R) (av (Yx a c) λr=>k (.int dst r) H) (λ_ _=>aH (WC a mode) (k (.int dst a) H) (av (Yi a c) λr=>k (.int dst r) H)) mode) (no 0)
noncomputable def xZ(x:Arg)(id:Nat)(ph:dz)(e:Env)(H:Heap)(k:K):R:=aJ x e λx=>bC id x (λb o l _ _=>nv id H b o l λn=>k (.str l n) H) (k (.str 0 0) H)
noncomputable def x9(x:Arg)(id:Nat)(ph:dz)(e:Env)(H:Heap)(k:K):R:=aJ x e λx=>er id x λl n=>aH (Yd l 16777216) (cN H (.bytes l n) λb H=>k (.slice b 0 l 0 1) H) (no 0)
noncomputable def acp(t:Nat)(x:Arg)(id:Nat)(ph:dz)(e:Env)(H:Heap)(k:K):R:=aJ x e λx=>vIf id t x λv=>k (.cG [v,.bool true]) H
noncomputable def aci(t:Nat)(x:Arg)(id:Nat)(ph:dz)(e:Env)(H:Heap)(k:K):R:=aJ x e λv=>k (.iface t v) H
noncomputable def TJ(f:Nat)(caps:List Arg)(id:Nat)(ph:dz)(e:Env)(H:Heap)(k:K):R:=pT caps e λl=>k (.func f l) H
noncomputable def acj(id:Nat)(ph:dz)(e:Env)(H:Heap)(k:K):R:=cN H (.map []) λb H=>k (.map b) H
noncomputable def ya(u8:Bool)(zero:List V)(l c:Arg)(id:Nat)(ph:dz)(e:Env)(H:Heap)(k:K):R:=aJ l e λl=>cI id l λkl l=>aJ c e λc=>cI id c λkc c=>aH (Yd 3 kl) (aH (Yd 3 kc) (aH (Yd l c) (aH (Yd c 16777216) (aH u8 (cN H (.bytes c 0) λb H=>av (WQ c) λc1=>k (.slice b 0 l c1 0) H) (ZQ zero c λr=>bB id r (cN H (.cells r) λb H=>av (WQ c) λc1=>k (.slice b 0 l c1 0) H))) (no 0)) (no 0)) (no 0)) (no 0)
noncomputable def iw(id:Nat)(x:Option Arg)(e:Env)(d:Nat)(k:Nat->R):R:=Option.rec (motive:=λ_=>R) (k d) (λa=>aJ a e λv=>cI id v λkd n=>aH (Yd 3 kd) (aH (WC n 9223372036854775808) (k n) (no 0)) (no 0)) x
noncomputable def acn(x:Arg)(lo hi:Option Arg)(id:Nat)(ph:dz)(e:Env)(H:Heap)(k:K):R:=aJ x e λx=>er id x λlen n=>iw id hi e len λh=>iw id lo e 0 λl=>aH (Yd l h) (aH (Yd h len) (av (QO h l) λd=>av (Yx (WD n (Yn 8 l)) (YE3 256 d)) λr=>k (.str d r) H) (no 0)) (no 0)
noncomputable def aco(size:Nat)(x:Arg)(lo hi mx:Option Arg)(id:Nat)(ph:dz)(e:Env)(H:Heap)(k:K):R:=aJ x e λx=>bC id x (λb o len cp sz=>iw id lo e 0 λl=>iw id hi e len λh=>aH (Yd l h) (av (QO h l) λd=>Option.rec (motive:=λ_=>R) (Nat.rec (motive:=λ_=>R) (aH (Yd h len) (aH (YR sz size) (av (Yi o (Yn l size)) λo'=>k (.slice b o' d 0 sz) H) (no 0)) (no 0)) (λq _=>aH (Yd h q) (aH (YR q l) (k (.slice b o d 1 0) H) (av (Yi o (Yn l size)) λo'=>av (WQ (QO q l)) λc'=>k (.slice b o' d c' 0) H)) (no 0)) cp) (λm=>iw id (some m) e 0 λm=>aH (Yd h m) (aH (Yd m (Nat.rec (motive:=λ_=>Nat) len (λq _=>q) cp)) (aH (YR m l) (k (.slice b o d 1 0) H) (av (Yi o (Yn l size)) λo'=>av (WQ (QO m l)) λc'=>k (.slice b o' d c' 0) H)) (no 0)) (no 0)) mx) (no 0)) (iw id lo e 0 λl=>iw id hi e 0 λh=>iw id mx e 0 λm=>aH (YR l 0) (aH (YR h 0) (aH (YR m 0) (k .aE H) (no 0)) (no 0)) (no 0))
noncomputable def acm(n size:Nat)(x:Arg)(lo hi mx:Option Arg)(id:Nat)(ph:dz)(e:Env)(H:Heap)(k:K):R:=aJ x e λx=>eH id x λb o=>iw id mx e n λm=>iw id hi e n λh=>iw id lo e 0 λl=>aH (Yd l h) (aH (Yd h m) (aH (Yd m n) (av (QO h l) λd=>aH (YR m l) (k (.slice b o d 1 0) H) (av (Yi o (Yn l size)) λo'=>av (WQ (QO m l)) λc'=>k (.slice b o' d c' 0) H)) (no 0)) (no 0)) (no 0)
noncomputable def Ty(off:Nat)(x:Arg)(id:Nat)(ph:dz)(e:Env)(H:Heap)(k:K):R:=aJ x e λx=>eH id x λb o=>av (Yi o off) λo'=>k (.ptr b o') H
noncomputable def Tz(off:Nat)(x:Arg)(id:Nat)(ph:dz)(e:Env)(H:Heap)(k:K):R:=aJ x e λx=>js id x λl=>nth id l off λv=>k v H
noncomputable def TA(off n:Nat)(x:Arg)(id:Nat)(ph:dz)(e:Env)(H:Heap)(k:K):R:=aJ x e λx=>js id x λl=>fR id l off λr=>takeN id r n λq=>k (.agg q) H
noncomputable def idx(id:Nat)(i:Arg)(e:Env)(len:Nat)(k:Nat->R):R:=aJ i e λv=>cI id v λkd n=>aH (Yd 3 kd) (aH (WC n len) (aH (WC n 9223372036854775808) (k n) (no 0)) (no 0)) (no 0)
noncomputable def ace(len size:Nat)(x i:Arg)(id:Nat)(ph:dz)(e:Env)(H:Heap)(k:K):R:=aJ x e λx=>eH id x λb o=>idx id i e len λn=>av (Yi o (Yn n size)) λo'=>k (.ptr b o') H
noncomputable def ach(size:Nat)(x i:Arg)(id:Nat)(ph:dz)(e:Env)(H:Heap)(k:K):R:=aJ x e λx=>mF id x λb o len _ _=>idx id i e len λn=>av (Yi o (Yn n size)) λo'=>k (.ptr b o') H
noncomputable def acg(x i:Arg)(id:Nat)(ph:dz)(e:Env)(H:Heap)(k:K):R:=aJ x e λx=>er id x λlen m=>idx id i e len λn=>av (YB4 (WD m (Yn 8 n)) 255) λr=>k (.int 4 r) H
noncomputable def acf(len size:Nat)(agg:Bool)(x i:Arg)(id:Nat)(ph:dz)(e:Env)(H:Heap)(k:K):R:=aJ x e λx=>js id x λl=>idx id i e len λn=>aH agg (fR id l (Yn n size) λr=>takeN id r size λq=>k (.agg q) H) (nth id l (Yn n size) λv=>k v H)
noncomputable def Mo(id:Nat)(ks:Bool)(x y:V)(k:Bool->R):R:=V.rec (motive_1:=λ_=>R) (motive_2:=λ_=>R) (λk1 a=>cI id y λk2 b=>aH ks (no 0) (aH (YR k1 k2) (k (YR a b)) (no 0))) (λ_=>no 0) (λl1 a=>er id y λl2 b=>aH ks (aH (YR l1 l2) (k (YR a b)) (k false)) (no 0)) (λ_ _=>no 0) (no 0) (λ_ _ _ _ _=>no 0) (no 0) (λ_=>no 0) (no 0) (λ_ _ _=>no 0) (λ_=>no 0) (no 0) (λ_ _ _=>no 0) (no 0) (λ_ _=>no 0) (λ_ _=>no 0) (0:R) (λ_ _ _ _=>(0:R)) x
noncomputable def vV(id:Nat)(ks:Bool)(es:List (V×V))(x:V)(f:V->R)(z:R):R:=List.rec (motive:=λ_=>R) z (λp _ ih=>YH2 (motive:=λ_=>R) (λa v=>Mo id ks x a λb=>aH b (f v) ih) p) es
noncomputable def zN(id:Nat)(ks:Bool)(es:List (V×V))(x y:V):(List (V×V)->R)->R:=List.rec (motive:=λ_=>(List (V×V)->R)->R) (λk=>k [(x,y)]) (λp l ih k=>YH2 (motive:=λ_=>R) (λa v=>Mo id ks x a λb=>aH b (k ((a,y)::l)) (ih λr=>k ((a,v)::r))) p) es
noncomputable def Oi(id:Nat)(ks:Bool)(es:List (V×V))(x:V):(List (V×V)->R)->R:=List.rec (motive:=λ_=>(List (V×V)->R)->R) (λk=>k []) (λp l ih k=>YH2 (motive:=λ_=>R) (λa v=>Mo id ks x a λb=>aH b (k l) (ih λr=>k ((a,v)::r))) p) es
noncomputable def TG(ks:Bool)(zero:V)(ok:Bool)(m x:Arg)(id:Nat)(ph:dz)(e:Env)(H:Heap)(k:K):R:=aJ m e λm=>aJ x e λx=>rG id m (λb=>cR H b λbl=>kX id bl λes=>vV id ks es x (λv=>aH ok (k (.cG [v,.bool true]) H) (k v H)) (aH ok (k (.cG [zero,.bool false]) H) (k zero H))) (aH ok (k (.cG [zero,.bool false]) H) (k zero H))
noncomputable def isKey(id:Nat)(x:V)(k:R):R:=V.rec (motive_1:=λ_=>R) (motive_2:=λ_=>R) (λ_ _=>k) (λ_=>no 0) (λ_ _=>k) (λ_ _=>no 0) (no 0) (λ_ _ _ _ _=>no 0) (no 0) (λ_=>no 0) (no 0) (λ_ _ _=>no 0) (λ_=>no 0) (no 0) (λ_ _ _=>no 0) (no 0) (λ_ _=>no 0) (λ_ _=>no 0) (0:R) (λ_ _ _ _=>(0:R)) x
noncomputable def TK(ks:Bool)(m x y:Arg)(id:Nat)(ph:dz)(e:Env)(H:Heap)(k:K):R:=aJ m e λm=>aJ x e λx=>aJ y e λy=>ve id m λb=>cR H b λbl=>kX id bl λes=>isKey id x (zN id ks es x y λes'=>cJ id H b (.map es') λH=>k (.cG []) H)
noncomputable def TH(ks:Bool)(m x:Arg)(id:Nat)(ph:dz)(e:Env)(H:Heap)(k:K):R:=aJ m e λm=>aJ x e λx=>ve id m λb=>cR H b λbl=>kX id bl λes=>Oi id ks es x λes'=>cJ id H b (.map es') λH=>k (.cG []) H
noncomputable def Tw(x:Arg)(i:Nat)(id:Nat)(ph:dz)(e:Env)(H:Heap)(k:K):R:=aJ x e λx=>AU id x λl=>nth id l i λv=>k v H
noncomputable def Tu(f:Nat)(args:List Arg)(id:Nat)(ph:dz)(e:Env)(H:Heap)(k:K):R:=pT args e λl=>ph (.func f []) l H k
noncomputable def JJ(x:Arg)(args:List Arg)(id:Nat)(ph:dz)(e:Env)(H:Heap)(k:K):R:=aJ x e λx=>pT args e λl=>ph x l H k
noncomputable def dg(id:Nat)(size:Nat)(H:Heap)(x:V)(k:Nat->List V->R):R:=V.rec (motive_1:=λ_=>R) (motive_2:=λ_=>R) (λ_ _=>no 0) (λ_=>no 0) (λl n=>aH (YR size 1) (qW l n λm=>k l m) (no 0)) (λ_ _=>no 0) (no 0) (λb o l _ _=>Nat.rec (motive:=λ_=>R) (k 0 []) (λ_ _=>HG id H b o (Yn l size) λm=>k l m) l) (k 0 []) (λ_=>no 0) (no 0) (λ_ _ _=>no 0) (λ_=>no 0) (no 0) (λ_ _ _=>no 0) (no 0) (λ_ _=>no 0) (λ_ _=>no 0) (0:R) (λ_ _ _ _=>(0:R)) x
noncomputable def yU(id:Nat)(H:Heap)(x:V)(k:Nat->Nat->R):R:=V.rec (motive_1:=λ_=>R) (motive_2:=λ_=>R) (λ_ _=>no 0) (λ_=>no 0) (λl n=>k l n) (λ_ _=>no 0) (no 0) (λb o l _ _=>nv id H b o l λm=>k l m) (k 0 0) (λ_=>no 0) (no 0) (λ_ _ _=>no 0) (λ_=>no 0) (no 0) (λ_ _ _=>no 0) (no 0) (λ_ _=>no 0) (λ_ _=>no 0) (0:R) (λ_ _ _ _=>(0:R)) x
noncomputable def sW(id size:Nat)(n:Nat)(new:List V)(b o len cp sz:Nat)(H:Heap)(k:K):R:=bB id new (av (Yi len n) λneed=>aH (Yd need 1073741824) (Nat.rec (motive:=λ_=>R) (aH (YR sz size) (aH (YR o 0) (cR H b λbl=>vt id bl (λl=>aH (YR (fU l) (Yn len size)) (kB l new λl'=>cJ id H b .dead λH=>cN H (.cells l') λb' H=>k (.slice b' 0 need 0 size) H) (no 0)) (λ_ _=>no 0)) (no 0)) (no 0)) (λq _=>aH (Yd need q) (ei id H b (Yi o (Yn len size)) new λH=>k (.slice b o need cp sz) H) (fi id H b o (Yn len size) λl=>bB id l (kB l new λl'=>cN H (.cells l') λb' H=>k (.slice b' 0 need 0 size) H))) cp) (no 0))
noncomputable def Md(size:Nat)(s x:Arg)(id:Nat)(e:Env)(H:Heap)(k:K):R:=aJ s e λs=>aJ x e λx=>dg id size H x λn new=>bC id s (λb o len cp sz=>Nat.rec (motive:=λ_=>R) (k s H) (λ_ _=>sW id size n new b o len cp sz H k) n) (Nat.rec (motive:=λ_=>R) (k s H) (λ_ _=>bB id new (aH (Yd n 1073741824) (cN H (.cells new) λb' H=>k (.slice b' 0 n 0 size) H) (no 0))) n)
noncomputable def Nw(id:Nat)(n new:Nat)(b o len cp sz:Nat)(H:Heap)(k:K):R:=av (Yi len n) λneed=>aH (Yd need 1073741824) (Nat.rec (motive:=λ_=>R) (aH (YR sz 1) (aH (YR o 0) (cR H b λbl=>vt id bl (λ_=>no 0) (λln m=>aH (YR ln len) (av (Yi m (Yt new (Yn 8 len))) λm'=>cJ id H b .dead λH=>cN H (.bytes need m') λb' H=>k (.slice b' 0 need 0 1) H) (no 0))) (no 0)) (no 0)) (λq _=>aH (Yd need q) (no 0) (nv id H b o len λm=>av (Yi m (Yt new (Yn 8 len))) λm'=>cN H (.bytes need m') λb' H=>k (.slice b' 0 need 0 1) H)) cp) (no 0)
noncomputable def Mc(s x:Arg)(id:Nat)(e:Env)(H:Heap)(k:K):R:=aJ s e λs=>aJ x e λx=>yU id H x λn new=>bC id s (λb o len cp sz=>Nat.rec (motive:=λ_=>R) (k s H) (λ_ _=>Nw id n new b o len cp sz H k) n) (Nat.rec (motive:=λ_=>R) (k s H) (λ_ _=>aH (Yd n 1073741824) (cN H (.bytes n new) λb' H=>k (.slice b' 0 n 0 1) H) (no 0)) n)
noncomputable def ahF(u8:Bool)(size:Nat)(s x:Arg)(id:Nat)(ph:dz)(e:Env)(H:Heap)(k:K):R:=aH u8 (Mc s x id e H k) (Md size s x id e H k)
noncomputable def Uk(id:Nat)(x:V)(k:Nat->R):R:=V.rec (motive_1:=λ_=>R) (motive_2:=λ_=>R) (λ_ _=>no 0) (λ_=>no 0) (λl _=>k l) (λ_ _=>no 0) (no 0) (λ_ _ l _ _=>k l) (k 0) (λ_=>no 0) (no 0) (λ_ _ _=>no 0) (λ_=>no 0) (no 0) (λ_ _ _=>no 0) (no 0) (λ_ _=>no 0) (λ_ _=>no 0) (0:R) (λ_ _ _ _=>(0:R)) x
noncomputable def OY(a b:Nat)(k:Nat->R):R:=aH (Yd a b) (k a) (k b)
noncomputable def lQ(id n:Nat)(H:Heap)(k:K):R:=aH (WC n 9223372036854775808) (k (.int 3 n) H) (no 0)
noncomputable def Tv(size:Nat)(d s:Arg)(id:Nat)(ph:dz)(e:Env)(H:Heap)(k:K):R:=aJ d e λd=>aJ s e λs=>bC id d (λb o dl _ _=>Uk id s λsl=>OY sl dl λn=>dg id size H s λ_ l=>takeN id l (Yn n size) λm=>Nat.rec (motive:=λ_=>R) (k (.int 3 0) H) (λ_ _=>ei id H b o m λH=>lQ id n H k) n) (dg id size H s λ_ _=>k (.int 3 0) H)
noncomputable def TE(x:Arg)(id:Nat)(ph:dz)(e:Env)(H:Heap)(k:K):R:=aJ x e λx=>er id x λn _=>lQ id n H k
noncomputable def TB(x:Arg)(id:Nat)(ph:dz)(e:Env)(H:Heap)(k:K):R:=aJ x e λx=>bC id x (λ_ _ n _ _=>lQ id n H k) (lQ id 0 H k)
noncomputable def Dr(es:List (V×V)):Nat:=List.rec (motive:=λ_=>Nat) 0 (λ_ _ ih=>WQ ih) es
noncomputable def TC(x:Arg)(id:Nat)(ph:dz)(e:Env)(H:Heap)(k:K):R:=aJ x e λx=>rG id x (λb=>cR H b λbl=>kX id bl λes=>av (Dr es) λn=>lQ id n H k) (lQ id 0 H k)
noncomputable def acb(x:Arg)(id:Nat)(ph:dz)(e:Env)(H:Heap)(k:K):R:=aJ x e λx=>bC id x (λ_ _ _ cp _=>Nat.rec (motive:=λ_=>R) (no 0) (λq _=>aH (WC q 9223372036854775808) (k (.int 3 q) H) (no 0)) cp) (k (.int 3 0) H)
noncomputable def eMm(kd o m:Nat)(mx:Bool)(x y:Arg)(id:Nat)(ph:dz)(e:Env)(H:Heap)(k:K):R:=aJ x e λx=>cI id x λk1 a=>aJ y e λy=>cI id y λk2 b=>aH (YR k1 kd) (aH (YR k2 kd) (aH (Yd (Yx (Yi a o) m) (Yx (Yi b o) m)) (aH mx (k (.int kd b) H) (k (.int kd a) H)) (aH mx (k (.int kd a) H) (k (.int kd b) H))) (no 0)) (no 0)
noncomputable def HA(o m:Nat)(mx:Bool)(a b:Nat)(k:Nat->R):R:=aH (Yd (Yx (Yi a o) m) (Yx (Yi b o) m)) (aH mx (k b) (k a)) (aH mx (k a) (k b))
noncomputable def XQ(kd o m:Nat)(mx:Bool)(x y z:Arg)(id:Nat)(ph:dz)(e:Env)(H:Heap)(k:K):R:=aJ x e λx=>cI id x λk1 a=>aJ y e λy=>cI id y λk2 b=>aJ z e λz=>cI id z λk3 c=>aH (YR k1 kd) (aH (YR k2 kd) (aH (YR k3 kd) (HA o m mx a b λr=>HA o m mx r c λq=>k (.int kd q) H) (no 0)) (no 0)) (no 0)
noncomputable def Ka(id:Nat)(c:Nat)(x y:V)(k:Bool->R):R:=Nat.rec (motive:=λ_=>R) (fm id x λa=>fm id y λb=>aH a (k b) (aH b (k false) (k true))) (λc' _=>Nat.rec (motive:=λ_=>R) (cI id x λk1 a=>cI id y λk2 b=>aH (YR k1 k2) (k (YR a b)) (no 0)) (λ_ _=>er id x λl1 a=>er id y λl2 b=>aH (YR l1 l2) (k (YR a b)) (k false)) c') c
noncomputable def BP(l:List Nat):Nat:=List.rec (motive:=λ_=>Nat) 0 (λ_ _ ih=>WQ ih) l
noncomputable def hU(id:Nat)(cls:List Nat):List V->List V->(Bool->R)->R:=List.rec (motive:=λ_=>List V->List V->(Bool->R)->R) (λ_ _ k=>k true) (λc _ ih l m k=>List.rec (motive:=λ_=>R) (no 0) (λa l' _=>List.rec (motive:=λ_=>R) (no 0) (λb m' _=>Ka id c a b λr=>aH r (ih l' m' k) (k false)) m) l) cls
noncomputable def JI(cls:List Nat)(neg:Bool)(x y:Arg)(id:Nat)(ph:dz)(e:Env)(H:Heap)(k:K):R:=aJ x e λx=>js id x λl=>aJ y e λy=>js id y λm=>aH (YR (fU l) (BP cls)) (aH (YR (fU m) (BP cls)) (hU id cls l m λb=>aH b (aH neg (k (.bool false) H) (k (.bool true) H)) (k (.bool neg) H)) (no 0)) (no 0)
noncomputable def aQ(o:lU):Nat->dz->Env->Heap->K->R:=lU.rec (motive:=λ_=>Nat->dz->Env->Heap->K->R) ahG ahH ae7 ae6 ae5 Ts Tt CX rU rV wW wX Me Ol acd FQ TL XO TF JK xZ x9 aci TJ acj ya acn aco acm Ty Tz TA ace ach acg acf TG TK TH Tw Tu JJ ahF Tv TE TB TC acb eMm JI XQ acp o
noncomputable def bZ(d:Option Slot)(v:V)(e:Env)(k:Env->R):R:=Option.rec (motive:=λ_=>R) (k e) (λs=>KU s v e k) d
noncomputable def IN(x:V)(want:Bool)(t f:R):R:=V.rec (motive_1:=λ_=>R) (motive_2:=λ_=>R) (λ_ _=>f) (λb=>Bool.rec (motive:=λ_=>R) (aH want f t) (aH want t f) b) (λ_ _=>f) (λ_ _=>f) (f) (λ_ _ _ _ _=>f) (f) (λ_=>f) (f) (λ_ _ _=>f) (λ_=>f) (f) (λ_ _ _=>f) (f) (λ_ _=>f) (λ_ _=>f) (0:R) (λ_ _ _ _=>(0:R)) x
noncomputable def wz(g:Option (Slot×Bool))(e:Env)(t f:R):R:=Option.rec (motive:=λ_=>R) t (λp=>YH2 (motive:=λ_=>R) (λs b=>kE s e λv=>IN v b t f) p) g
noncomputable def jM(ph:dz)(l:List Er):Env->Heap->(Env->Heap->R)->R:=List.rec (motive:=λ_=>Env->Heap->(Env->Heap->R)->R) (λe H k=>k e H) (λo _ ih e H k=>Er.rec (motive:=λ_=>R) (λid d g _ op=>wz g e (aQ op id ph e H λv H'=>bZ d v e λe'=>ih e' H' k) (bZ d (.cG []) e λe'=>ih e' H k)) o) l
noncomputable def da(ph:dz)(l:List Er):Env->Heap->(Env->Heap->R)->R:=List.rec (motive:=λ_=>Env->Heap->(Env->Heap->R)->R) (λe H k=>k e H) (λo _ ih e H k=>Er.rec (motive:=λ_=>R) (λid d g cls op=>wz g e (Nat.rec (motive:=λ_=>R) (aQ op id ph e H λv H'=>bZ d v e λe'=>ih e' H' k) (λ_ _=>Heap.rec (motive:=λ_=>R) (λn bD t=>aQ op id ph e (.mk n n t) λv H'=>Heap.rec (motive:=λ_=>R) (λn' wlo' t'=>aH (Yd n wlo') (bZ d v e λe'=>ih e' (.mk n' bD t') k) (no 0)) H') H) cls) (bZ d (.cG []) e λe'=>ih e' H k)) o) l
abbrev KE:=Env->Heap->R
noncomputable def mM(id:Nat)(x:V)(k:Option Nat->R):R:=V.rec (motive_1:=λ_=>R) (motive_2:=λ_=>R) (λ_ _=>no 0) (λ_=>no 0) (λ_ _=>no 0) (λb _=>k (some b)) (no 0) (λb _ _ _ _=>k (some b)) (k none) (λ_=>no 0) (no 0) (λ_ _ _=>no 0) (λ_=>no 0) (no 0) (λ_ _ _=>no 0) (no 0) (λ_ _=>no 0) (λ_ _=>no 0) (0:R) (λ_ _ _ _=>(0:R)) x
noncomputable def dI(id bf b:Nat)(l:List (Nat×Nat))(k:R):R:=List.rec (motive:=λ_=>R) k (λp _ ih=>YH2 (motive:=λ_=>R) (λi' b'=>aH (Nat.testBit bf i') ih (aH (YR b b') (no 0) ih)) p) l
noncomputable def Bl(id:Nat)(b:eN)(k:R):R:=vt id b (λl=>List.rec (motive:=λ_=>R) k (λv _ ih=>isKey id v ih) l) λ_ _=>no 0
noncomputable def bI(ph:dz)(n0:Nat)(l:List wB):Env->Heap->List (Nat×Nat)->List (Nat×Nat)->(Env->Heap->R)->R:=List.rec (motive:=λ_=>Env->Heap->List (Nat×Nat)->List (Nat×Nat)->(Env->Heap->R)->R) (λe H _ _ k=>k e H) (λo _ ih e H fl st k=>wB.rec (motive:=λ_=>R) (λid d g tag i bf ad op=>wz g e (Nat.rec (motive:=λ_=>R) (aQ op id ph e H λv H'=>bZ d v e λe'=>ih e' H' fl st k) (λt1 _=>Nat.rec (motive:=λ_=>R) (Heap.rec (motive:=λ_=>R) (λn bD t=>aQ op id ph e (.mk n n t) λv H'=>Heap.rec (motive:=λ_=>R) (λn' wlo' t'=>aH (Yd n wlo') (bZ d v e λe'=>ih e' (.mk n' bD t') fl st k) (no 0)) H') H) (λt2 _=>aJ ad e λa=>mM id a λob=>Nat.rec (motive:=λ_=>R) (Option.rec (motive:=λ_=>R) (no 0) (λb=>aH (WC b n0) (dI id bf b st (aQ op id ph e H λv H'=>bZ d v e λe'=>ih e' H ((i,b)::fl) st k)) (no 0)) ob) (λt3 _=>Nat.rec (motive:=λ_=>R) (Option.rec (motive:=λ_=>R) (aQ op id ph e H λv H'=>bZ d v e λe'=>ih e' H' fl st k) (λb=>dI id bf b fl (aQ op id ph e H λv H'=>bZ d v e λe'=>ih e' H' fl ((i,b)::st) k)) ob) (λ_ _=>Heap.rec (motive:=λ_=>R) (λn bD t=>aQ op id ph e (.mk n n t) λv H'=>Heap.rec (motive:=λ_=>R) (λn' wlo' t'=>aH (Yd n wlo') (Bl id (HT.get t' n) (bZ d v e λe'=>ih e' (.mk n' bD t') ((i,n)::fl) st k)) (no 0)) H') H) t3) t2) t1) tag) (bZ d (.cG []) e λe'=>ih e' H fl st k)) o) l
noncomputable def Vf(x y:V)(k:R):R:=cI 0 x λk1 a=>cI 0 y λk2 b=>aH (YR k1 k2) (aH (YR a b) k (no 0)) (no 0)
noncomputable def si(l:List V):List V->R->R:=List.rec (motive:=λ_=>List V->R->R) (λm k=>List.rec (motive:=λ_=>R) k (λ_ _ _=>no 0) m) (λa _ ih m k=>List.rec (motive:=λ_=>R) (no 0) (λb m' _=>Vf a b (ih m' k)) m) l
noncomputable def wj(x y:eN)(k:R):R:=vt 0 x (λl=>vt 0 y (λm=>si l m k) λ_ _=>no 0) λ_ _=>no 0
noncomputable def qp(b:Nat)(x:eN)(hs:List Heap)(k:R):R:=List.rec (motive:=λ_=>R) k (λG _ ih=>cR G b λy=>wj y x ih) hs
noncomputable def rE(H H':Heap)(bs:List Nat)(k:R):R:=List.rec (motive:=λ_=>R) k (λb _ ih=>cR H b λx=>cR H' b λy=>wj y x ih) bs
noncomputable def dD(ph:dz)(n0:Nat)(l:List wB):Env->Heap->List Heap->List Nat->(Env->Heap->R)->R:=List.rec (motive:=λ_=>Env->Heap->List Heap->List Nat->(Env->Heap->R)->R) (λe H _ _ k=>k e H) (λo _ ih e H hs bs k=>wB.rec (motive:=λ_=>R) (λid d g tag _ _ ad op=>wz g e (aH (YR tag 5) (aJ ad e λa=>mM id a λob=>Option.rec (motive:=λ_=>R) (no 0) (λb=>aH (WC b n0) (cR H b λx=>qp b x hs (aQ op id ph e H λv _=>bZ d v e λe'=>ih e' H hs (b::bs) k)) (no 0)) ob) (aH (YR tag 6) (aQ op id ph e H λv H'=>rE H H' bs (bZ d v e λe'=>ih e' H' (H::hs) bs k)) (aQ op id ph e H λv H'=>bZ d v e λe'=>ih e' H' hs bs k))) (bZ d (.cG []) e λe'=>ih e' H hs bs k)) o) l
noncomputable def gH(c:au):Nat->dz->Env->Heap->KE->(Nat->KE)->R:=au.rec (motive:=λ_=>Nat->dz->Env->Heap->KE->(Nat->KE)->R) (λ_ _ _ _ _ _=>no 8) (λ_ _ e H kn _=>kn e H) (λops _ ph e H kn _=>jM ph ops e H kn) (λops _ ph e H kn _=>da ph ops e H kn) (λops _ ph e H kn _=>Heap.rec (motive:=λ_=>R) (λn _ _=>bI ph n ops e H [] [] kn) H) (λops _ ph e H kn _=>Heap.rec (motive:=λ_=>R) (λn _ _=>dD ph n ops e H [] [] kn) H) (λ_ _ iha ihb fuel ph e H kn kx=>iha fuel ph e H (λe H=>ihb fuel ph e H kn kx) kx) (λc _ _ iha ihb fuel ph e H kn kx=>aJ c e λv=>fm 0 v λb=>aH b (iha fuel ph e H kn kx) (ihb fuel ph e H kn kx)) (λid _ iha fuel ph e H kn kx=>iha fuel ph e H kn λn e H=>aH (YR n (WQ id)) (kn e H) (kx n e H)) (λ_ iha fuel ph e H _ kx=>Nat.rec (motive:=λ_=>Env->Heap->R) (λ_ _=>no 3) (λ_ ih e H=>iha fuel ph e H ih kx) fuel e H) (λid _ _ e H _ kx=>kx (WQ id) e H) (λ_ _ e H _ kx=>kx 0 e H) (λg ps assign body _ ph e H kn kx=>aJ g e λg=>Ab 0 g λf caps=>Nat.rec (motive:=λ_=>R) (cN H .mark λ_ H=>cN H (.loop 0 0 e ps assign body) λb H=>ph (.func f caps) [.rH b] H λ_ H=>cR H b λbl=>eA bl λst j e' ps' as' bo'=>Nat.rec (motive:=λ_=>R) (cJ 0 H b (.loop 3 j e' ps' as' bo') λH=>Nat.rec (motive:=λ_=>R) (kn e H) (λm _=>kx m e H) j) (λs _=>Nat.rec (motive:=λ_=>R) (no 10) (λ_ _=>cJ 0 H b (.loop 3 j e' ps' as' bo') λH=>Nat.rec (motive:=λ_=>R) (kn e H) (λm _=>kx m e H) j) s) st) (λ_ _=>no 14) (Yx f 2)) (λg ps assign body _ ph e H kn kx=>aJ g e λg=>Ab 0 g λf caps=>Nat.rec (motive:=λ_=>R) (cN H (.loop 0 0 e ps assign body) λb H=>ph (.func f caps) [.rH b] H λ_ H=>cR H b λbl=>eA bl λst j e' ps' as' bo'=>Nat.rec (motive:=λ_=>R) (cJ 0 H b (.loop 3 j e' ps' as' bo') λH=>Nat.rec (motive:=λ_=>R) (kn e H) (λm _=>kx m e H) j) (λs _=>Nat.rec (motive:=λ_=>R) (no 10) (λ_ _=>cJ 0 H b (.loop 3 j e' ps' as' bo') λH=>Nat.rec (motive:=λ_=>R) (kn e H) (λm _=>kx m e H) j) s) st) (λ_ _=>no 14) (Yx f 2)) c
inductive du where|nat(g:List V->Heap->K->R)|code(ps:List Slot)(res:List RV)(c:au)
noncomputable def afa(r:RV)(e:Env)(H:Heap)(k:V->R):R:=RV.rec (motive:=λ_=>R) (λs=>kE s e k) (λs=>kE s e λv=>eH 0 v λb o=>oQ 0 H b o k) (λs n=>kE s e λv=>eH 0 v λb o=>fi 0 H b o n λl=>k (.agg l)) r
noncomputable def yw(l:List RV)(e:Env)(H:Heap):(List V->R)->R:=List.rec (motive:=λ_=>(List V->R)->R) (λk=>k []) (λr _ ih k=>afa r e H λv=>ih λq=>k (v::q)) l
noncomputable def KO(l:List V)(k:V->R):R:=List.rec (motive:=λ_=>R) (k (.cG [])) (λv r _=>List.rec (motive:=λ_=>R) (k v) (λ_ _ _=>k (.cG l)) r) l
noncomputable def fX(ps:List Slot):List V->Env->(Env->R)->R:=List.rec (motive:=λ_=>List V->Env->(Env->R)->R) (λl e k=>List.rec (motive:=λ_=>R) (k e) (λ_ _ _=>no 4) l) (λs _ ih l e k=>List.rec (motive:=λ_=>R) (no 5) (λv r _=>KU s v e λe'=>ih r e' k) l) ps
noncomputable def u0:V:=.cG []
noncomputable def u1:N8 V:=.mk u0 u0 u0 u0 u0 u0 u0 u0
noncomputable def u2:N8 (N8 V):=.mk u1 u1 u1 u1 u1 u1 u1 u1
noncomputable def FU:Env:=.mk u2 u2 u2 u2 u2 u2 u2 u2
noncomputable def XX(f:du)(fuel:Nat)(ph:dz)(args:List V)(H:Heap)(k:K):R:=du.rec (motive:=λ_=>R) (λg=>g args H k) (λps res c=>fX ps args FU λe=>gH c fuel ph e H (λe H=>yw res e H λl=>KO l λv=>k v H) λn e H=>Nat.rec (motive:=λ_=>R) (yw res e H λl=>KO l λv=>k v H) (λ_ _=>no 6) n) f
noncomputable def W8(cp:RC->au)(fuel:Nat)(ph:dz)(b:Nat)(args:List V)(H:Heap)(k:K):R:=cR H b λbl=>eA bl λst j e ps asL bo=>Nat.rec (motive:=λ_=>R) (fX ps args e λe1=>gH (cp asL) fuel ph e1 H (λe2 H=>cR H b λbl=>eA bl λst1 j1 e1 ps1 as1 bo1=>Nat.rec (motive:=λ_=>R) (cJ 0 H b (.loop 1 j1 e1 ps1 as1 bo1) λH=>gH (cp bo) fuel ph e2 H (λ_ H=>cR H b λbl=>eA bl λ_ _ e' ps' as' bo'=>cJ 0 H b (.loop 0 0 e' ps' as' bo') λH=>k (.bool true) H) λn _ H=>cR H b λbl=>eA bl λ_ _ e' ps' as' bo'=>cJ 0 H b (.loop 2 (WQ n) e' ps' as' bo') λH=>k (.bool false) H) (λ_ _=>no 13) st1) (λ_ _ _=>no 11)) (λ_ _=>no 12) st
noncomputable def JQ(t:Nat->Option du)(fuel:Nat)(ph:dz)(f:Nat)(args:List V)(H:Heap)(k:K):R:=av f λf=>Option.rec (motive:=λ_=>R) (no (100+f)) (λfn=>XX fn fuel ph args H k) (t f)
noncomputable def aS(cp:RC->au)(t:Nat->Option du)(fuel:Nat)(depth:Nat):dz:=Nat.rec (motive:=λ_=>dz) (λ_ _ _ _=>no 7) (λ_ ih x args H k=>V.rec (motive_1:=λ_=>R) (motive_2:=λ_=>R) (λ_ _=>no 0) (λ_=>no 0) (λ_ _=>no 0) (λ_ _=>no 0) (no 0) (λ_ _ _ _ _=>no 0) (no 0) (λ_=>no 0) (no 0) (λf caps _=>Nat.rec (motive:=λ_=>R) (kB args caps λargs=>JQ t fuel ih (Wo f 2) args H k) (λ_ _=>kB caps args λargs=>JQ t fuel ih (Wo f 2) args H k) (Yx f 2)) (λb=>W8 cp fuel ih b args H k) (no 0) (λ_ _ _=>no 0) (no 0) (λ_ _=>no 0) (λ_ _=>no 0) (0:R) (λ_ _ _ _=>(0:R)) x) depth
noncomputable def H0:Heap:=.mk 0 0 .e
end Go.Ev
end
section
namespace Go.Ev
section
variable(P:Program)
def jc(fid:Nat)(fn:Func):Option du:=match fn.body with|some c=>if fn.ntmps<=512&&fn.params.size+fn.nfree<=fn.ntmps then match lX P fn.ntmps fn.results.toList with|some r=>some (.code ((WY (fn.params.size+fn.nfree)).map bj) r (iU P fn.ntmps fid false c))|none=>none else none|none=>none
end
noncomputable def Mn(sl sn:Nat)(l:List V):(Nat->Nat->R)->R:=List.rec (motive:=λ_=>(Nat->Nat->R)->R) (λk=>k 0 0) (λv r ih k=>er 0 v λl n=>List.rec (motive:=λ_=>R) (k l n) (λ_ _ _=>ih λrl rn=>av (Yi l (Yi sl rl)) λtl=>av (Yi n (Yt (Yi sn (Yt rn (Yn 8 sl))) (Yn 8 l))) λtn=>k tl tn) r) l
noncomputable def qH(c b:Nat)(k:Nat->R):R:=av (YQ1 (WD c 4) (YB4 (WD 9937593612760466100516450665319420528403982636753068485404800763335476026940182181175496972418787619281442302519629725716261212251300561153615832085954560 (Yn 32 (YB4 (YQ1 c b) 15))) 4294967295)) k
noncomputable def wV(l:Nat):Nat->Nat->(Nat->R)->R:=Nat.rec (motive:=λ_=>Nat->Nat->(Nat->R)->R) (λ_ c k=>k c) (λ_ ih n c k=>av (Yx n 256) λb=>av (Wo n 256) λn'=>qH c b λc=>qH c (WD b 4) λc=>ih n' c k) l
def q8{α:Type}(i:I8)(t:N8 α)(x:α):N8 α:=match t with|.mk a0 a1 a2 a3 a4 a5 a6 a7=>match i with|.i0=>.mk x a1 a2 a3 a4 a5 a6 a7|.i1=>.mk a0 x a2 a3 a4 a5 a6 a7|.i2=>.mk a0 a1 x a3 a4 a5 a6 a7|.i3=>.mk a0 a1 a2 x a4 a5 a6 a7|.i4=>.mk a0 a1 a2 a3 x a5 a6 a7|.i5=>.mk a0 a1 a2 a3 a4 x a6 a7|.i6=>.mk a0 a1 a2 a3 a4 a5 x a7|.i7=>.mk a0 a1 a2 a3 a4 a5 a6 x
def jl(s:Slot)(v:V)(e:Env):Env:=match s with|.mk a b c=>q8 a e (q8 b (p8 a e) (q8 c (p8 b (p8 a e)) v))
theorem Ub{α}(i)(t)(k:α->R):g8 i t k=k (p8 i t):=by cases i<;>rfl
theorem VM{α}(i)(t)(f)(k:N8 α->R):u8 i t f k=f (p8 i t) λx=>k (q8 i t x):=by cases i<;>rfl
theorem MD{α}(i j)(t)(x:α):p8 i (q8 j t x)=if i=j then x else p8 i t:=by cases i<;>cases j<;>rfl
theorem eC(s)(e)(k):kE s e k=k (af s e):=by cases s with|mk a b c=>show g8 a e (λt=>g8 b t λu=>g8 c u k)=_;rw[Ub,Ub,Ub];rfl
theorem tT(s)(v)(e)(k):KU s v e k=k (jl s v e):=by cases s with|mk a b c=>show u8 a e (λt k1=>u8 b t (λu k2=>u8 c u (λ_ k3=>k3 v) k2) k1) k=_;rw[VM,VM,VM];rfl
theorem fH(s s')(v)(e):af s (jl s' v e)=if s=s' then v else af s e:=by cases s with|mk a b c=>cases s' with|mk a' b' c'=>
   simp only[af,jl,MD];by_cases h1:a=a'
   .subst h1;by_cases h2:b=b'
    .subst h2;by_cases h3:c=c';.simp[MD]
     .simp[h3,MD]
    .simp[h2,MD]
   simp_all
theorem JE{m n}(hm:m<8)(hn:n<8)(h:d8 m=d8 n):m=n:=by rcases(by omega:m=0\/m=1\/m=2\/m=3\/m=4\/m=5\/m=6\/m=7)with rfl|rfl|rfl|rfl|rfl|rfl|rfl|rfl<;>rcases(by omega:n=0\/n=1\/n=2\/n=3\/n=4\/n=5\/n=6\/n=7)with rfl|rfl|rfl|rfl|rfl|rfl|rfl|rfl<;>first|rfl|cases h
theorem fY{m n}(hm:m<512)(hn:n<512)(h:bj m=bj n):m=n:=by injection h with h1 h2 h3;have h1:=JE (by omega) (by omega) h1;have h2:=JE (by omega) (by omega) h2;have h3:=JE (by omega) (by omega) h3;omega
theorem TR.put{mu:M}{nt:Nat}{e:Env}{tmps:Array Value}(h:TR mu nt e tmps){d:Nat}{v:V}{c:Value}(hd:d<nt)(hv:VR mu v c):TR mu nt (jl (bj d) v e) (tmps.setIfInBounds d c):=by
 refine⟨by simpa using h.size,h.le,λt u ht=>?_,λt h1 h2=>by have hl:=h.le;rw[fH,if_neg λe=>by have:=fY (by omega) (by omega) e;omega];exact h.rest t h1 h2⟩;rw[fH];have hs:=h.size;have hl:=h.le;by_cases htd:t=d;.subst htd;rw[if_pos rfl];rw[Array.getElem?_setIfInBounds_self_of_lt (by omega)]at ht;cases ht;exact hv
 .rw[WV (Ne.symm htd)]at ht;have hlt:t<tmps.size:=by
   rcases Yh t tmps.size with h|h;.exact h
   .simp[Array.getElem?_eq_none h]at ht
  rw[if_neg λe=>htd (fY (by omega) (by omega) e)];exact h.get t u ht
theorem ay(n)(k):av n k=k n:=by cases n<;>rfl
theorem aff(t f):aH true t f=t:=rfl
theorem adQ(t f):aH false t f=f:=rfl
theorem aX{c}{t}{n}(h:aH c t (no n)=1):c=true/\t=1:=by
 cases c;.exact(aw h).elim
 .exact⟨rfl,h⟩
theorem bS{c}{t f}(h:aH c t f=1):(c=true/\t=1)\/(c=false/\f=1):=by
 cases c;.exact YD ⟨rfl,h⟩
 .exact YF ⟨rfl,h⟩
theorem cU{a b:Nat}(h:YR a b=true):a=b:=Nat.eq_of_beq_eq_true h
theorem cH{a b:Nat}(h:Yd a b=true):a<=b:=Qz h
theorem fu{a b}(h:WC a b=true):a<b:=Qz h
theorem dL{id}{x}{k}(h:cI id x k=1):(∃kd n,x=.int kd n/\k kd n=1):=by cases x<;>first|exact(aw h).elim|exact⟨_,_,rfl,h⟩
theorem nH{id}{x}{k}(h:fm id x k=1):(∃b,x=.bool b/\k b=1):=by cases x<;>first|exact(aw h).elim|exact⟨_,rfl,h⟩
theorem eJ{id}{x}{k}(h:er id x k=1):(∃l n,x=.str l n/\k l n=1):=by cases x<;>first|exact(aw h).elim|exact⟨_,_,rfl,h⟩
theorem gu{id}{x}{k}(h:eH id x k=1):(∃b o,x=.ptr b o/\k b o=1):=by cases x<;>first|exact(aw h).elim|exact⟨_,_,rfl,h⟩
theorem Q6{id}{x}{k}(h:mF id x k=1):(∃b o l c s,x=.slice b o l c s/\k b o l c s=1):=by cases x<;>first|exact(aw h).elim|exact⟨_,_,_,_,_,rfl,h⟩
theorem fZ{id}{x}{k}{z}(h:bC id x k z=1):(∃b o l c s,x=.slice b o l c s/\k b o l c s=1)\/(x=.aE/\z=1):=by cases x<;>first|exact(aw h).elim|exact YF ⟨_,_,_,_,_,rfl,h⟩|exact YD ⟨rfl,h⟩
theorem xm{id}{x}{k}(h:ve id x k=1):(∃b,x=.map b/\k b=1):=by cases x<;>first|exact(aw h).elim|exact⟨_,rfl,h⟩
theorem IC{id}{x}{k}{z}(h:rG id x k z=1):(∃b,x=.map b/\k b=1)\/(x=.wK/\z=1):=by cases x<;>first|exact(aw h).elim|exact YF ⟨_,rfl,h⟩|exact YD ⟨rfl,h⟩
theorem IB{id}{x}{k}(h:Ab id x k=1):(∃f l,x=.func f l/\k f l=1):=by cases x<;>first|exact(aw h).elim|exact⟨_,_,rfl,h⟩
theorem qX{id}{x}{k}(h:js id x k=1):(∃l,x=.agg l/\k l=1):=by cases x<;>first|exact(aw h).elim|exact⟨_,rfl,h⟩
theorem adw{id t}{x}{k}(h:vIf id t x k=1):∃v,x=.iface t v/\k v=1:=by
 cases x<;>first|exact(aw h).elim|skip
 have h':=h;rcases bS h' with⟨h1,h2⟩|⟨_,h2⟩;.simp_all
 .exact(aw h2).elim
theorem aah{id}{x}{k}(h:AU id x k=1):(∃l,x=.cG l/\k l=1):=by cases x<;>first|exact(aw h).elim|exact⟨_,rfl,h⟩
theorem uM{id}:∀{l}{i}{k},nth id l i k=1->∃v,l[i]?=some v/\k v=1|[],_,_,h=>(aw h).elim|v::l,0,_,h=>⟨v,rfl,h⟩|_::l,i+1,k,h=>by have h':nth id l i k=1:=h;obtain⟨v,h1,h2⟩:=uM h';simp_all
theorem lK{id}:∀{l}{n}{k},takeN id l n k=1->n<=l.length/\k (l.take n)=1|[],0,_,h=>⟨YC _,h⟩|[],_+1,_,h=>(aw h).elim|v::l,0,_,h=>⟨Ya _,h⟩|v::l,n+1,k,h=>by have h':takeN id l n (λr=>k (v::r))=1:=h;obtain⟨h1,h2⟩:=lK h';simp_all
theorem mZ{id}:∀{l}{n}{k},fR id l n k=1->n<=l.length/\k (l.drop n)=1|[],0,_,h=>⟨YC _,h⟩|[],_+1,_,h=>(aw h).elim|v::l,0,_,h=>⟨Ya _,h⟩|v::l,n+1,k,h=>by have h':fR id l n k=1:=h;obtain⟨h1,h2⟩:=mZ h';simp_all
theorem fK:∀(l m)(k),kB l m k=k (l++m)|[],_,_=>rfl|v::l,m,k=>by show kB l m (λr=>k (v::r))=_;rw[fK];rfl
theorem DE{id}:∀{m l}{k},over id m l k=1->m.length<=l.length/\k (m++l.drop m.length)=1|[],l,k,h=>⟨Ya _,by have h':k l=1:=h;simp_all⟩|x::m,[],_,h=>(aw h).elim|x::m,y::l,k,h=>by have h':over id m l (λq=>k (x::q))=1:=h;obtain⟨h1,h2⟩:=DE h';simp_all
theorem zK{id}{m}:∀{l}{i}{k},setAt id m l i k=1->i+m.length<=l.length/\k (l.take i++(m++l.drop (i+m.length)))=1|[],0,k,h=>by have h':over id m [] k=1:=h;obtain⟨h1,h2⟩:=DE h';simp_all|[],_+1,_,h=>(aw h).elim|v::l,0,k,h=>by have h':over id m (v::l) k=1:=h;obtain⟨h1,h2⟩:=DE h';simp_all|v::l,i+1,k,h=>by have h':setAt id m l i (λr=>k (v::r))=1:=h;obtain⟨h1,h2⟩:=zK h';rw[show i+1+m.length=(i+m.length)+1by omega];simp_all
theorem kF:∀l:List V,fU l=l.length|[]=>rfl|_::l=>by show WQ (fU l)=_;rw[kF l];rfl
theorem DQ(m):∀(n)(k),ZQ m n k=k (iK n m)|0,_=>rfl|n+1,k=>by show ZQ m n (λr=>kB m r k)=_;rw[DQ m n,fK];rfl
theorem yC{id}{x}{k}(h:ef id x k=1):x.one=true/\k=1:=by cases x<;>first|exact(aw h).elim|exact⟨rfl,h⟩
theorem fE{id}:∀{l}{k},bB id l k=1->(∀v∈l,v.one=true)/\k=1|[],_,h=>⟨λ_ hv=>absurd hv (by simp),h⟩|v::l,k,h=>by have h':ef id v (bB id l k)=1:=h;obtain⟨h1,h2⟩:=yC h';obtain⟨h3,h4⟩:=fE h2;simp_all
theorem Q2{id}{x}{k}(h:dU id x k=1):(∃l,x=.agg l/\k l=1)\/(x.one=true/\k [x]=1):=by cases x<;>first|exact(aw h).elim|exact YF ⟨_,rfl,h⟩|exact YD ⟨rfl,h⟩
theorem aL:∀(l n),(aF l n).length=l|0,_=>rfl|l+1,n=>by simp[aF,aL l]
theorem sj:∀(l n i),i<l->(aF l n)[i]?=some (UInt8.ofNat (n/256^i%256))|0,_,_,h=>absurd h (by omega)|l+1,n,0,_=>by simp[aF]|l+1,n,i+1,h=>by simp only[aF,QI];rw[sj l (n/256) i (by omega),YL0,Qd,Ww]
theorem toNat_byte(x):(UInt8.ofNat (x%256)).toNat=x%256:=by simp
theorem oE:∀(l n m),n%256^l=m%256^l->aF l n=aF l m
 |0,_,_,_=>rfl|l+1,n,m,h=>by
  rw[Qd]at h;have h1:=by have:=congrArg (·%256) h;simpa[Nat.mod_mul_left_mod]using this
  have h2:n/256%256^l=m/256%256^l:=by rw[Ww]at h;rw[<-YH3,<-YH3,h]
  simp only[aF,h1,oE l _ _ h2]
theorem fI:∀(a b n m),n<256^a->aF (a+b) (n+256^a*m)=aF a n++aF b m
 |0,b,n,m,h=>by
  have:n=0:=by omega
  subst this;simp[aF]|a+1,b,n,m,h=>by
  rw[Qd]at h⊢;have e1:(n+256^a*256*m)%256=n%256:=by rw[YP1,Nat.add_mul_mod_self_right]
  have e2:(n+256^a*256*m)/256=n/256+256^a*m:=by rw[YP1,Nat.add_mul_div_right _ _ (by simp)]
  rw[show a+1+b=(a+b)+1by omega];simp only[aF,e1,e2,YL];rw[fI a b (n/256) m (YG1 (by omega))]
theorem jS:∀(i l n),i<=l->(aF l n).drop i=aF (l-i) (n/256^i)|0,l,n,_=>by simp|i+1,0,n,h=>absurd h (by omega)|i+1,l+1,n,h=>by simp only[aF,List.drop_succ_cons];rw[jS i l (n/256) (by omega),YL0,Qd,Ww 256,show l+1-(i+1)=l-i by omega]
theorem jT:∀(i l n),i<=l->(aF l n).take i=aF i n|0,l,n,_=>by rfl|i+1,0,n,h=>absurd h (by omega)|i+1,l+1,n,h=>by simp[aF,jT i l (n/256) (by omega)]
theorem Ih:∀l:Nat,aF l 0=Yc l 0|0=>rfl|l+1=>by simp[aF,Ih l,List.replicate_succ]
theorem jj:∀l:List UInt8,enc l<256^l.length|[]=>by simp[enc]|x::l=>by have:=jj l;have hx:=x.toNat_lt;simp only[enc,YH,Qd];omega
theorem fW:∀l:List UInt8,aF l.length (enc l)=l|[]=>rfl|x::l=>by have hx:=x.toNat_lt;simp only[enc,YH,aF];rw[show(x.toNat+256*enc l)%256=x.toNat by omega,show(x.toNat+256*enc l)/256=enc l by omega,fW l];simp
theorem nU:∀(l n),n<256^l->enc (aF l n)=n|0,n,h=>by simp at h;simp[aF,enc,h]|l+1,n,h=>by simp only[aF,enc,toNat_byte];rw[nU l (n/256) (YG1 (by omega))];omega
theorem sk{l m n}(hm:m<256^l)(hn:n<256^l)(h:aF l m=aF l n):m=n:=by rw[<-nU l m hm,h,nU l n hn]
def eO(x:UInt8):V:=.int 4 x.toNat
theorem qj{id}:∀{l}{k},iV id l k=1->∃n,k l.length n=1/\(∀v∈l,∃x,v=.int 4 x)/\((∀v∈l,∀x,v=.int 4 x->x<256)->l=(aF l.length n).map eO/\n<256^l.length)
 |[],k,h=>⟨0,h,λ_ hv=>absurd hv (by simp),λ_=>⟨rfl,by simp⟩⟩|v::l,k,h=>by
  have h':cI id v (λkd x=>aH (YR kd 4) (iV id l λlen n=>av (Yi x (Yn 256 n)) λn'=>av (WQ len) λlen'=>k len' n') (no _))=1:=h;obtain⟨kd,x,rfl,h1⟩:=dL h';obtain⟨h2,h3⟩:=aX h1;have:=cU h2;subst this;obtain⟨n,h4,h40,h5⟩:=qj h3;rw[ay,ay]at h4;refine⟨_,h4,λv hv=>(YN.1 hv).elim (λe=>⟨_,e⟩) (h40 v),λha=>?_⟩;obtain⟨h6,h7⟩:=h5 λv hv=>ha v (YI _ hv);have hlt:=ha _ (YM ..) _ rfl;simp only[YH,aF,Qd];have e1:(x.add (Yn 256 n))%256=x:=by show(x+256*n)%256=x;omega
  have e2:(x.add (Yn 256 n))/256=n:=by show(x+256*n)/256=n;omega
  rw[e1,e2];refine⟨?_,by omega⟩;simp only[YP,eO];rw[<-h6];simp[WH hlt]
theorem jr:∀(len n)(k),qW len n k=k ((aF len n).map eO)|0,_,_=>rfl|len+1,n,k=>by show av (Yx n 256) (λx=>av (Wo n 256) λn'=>qW len n' λr=>k (.int 4 x::r))=_;rw[ay,ay,jr];simp only[aF,YP,eO,toNat_byte];rfl
open Go.RowKit
theorem aU(H)(b)(k):cR H b k=k (H.get b):=by rfl
theorem nO{id}{bl}{kc}{kb}(h:vt id bl kc kb=1):(∃l,bl=.cells l/\kc l=1)\/∃len n,bl=.bytes len n/\kb len n=1:=by cases bl<;>first|exact(aw h).elim|exact YF ⟨_,rfl,h⟩|exact YD ⟨_,_,rfl,h⟩
theorem qC{id}{bl}{k}(h:kX id bl k=1):∃es,bl=.map es/\k es=1:=by cases bl<;>first|exact(aw h).elim|exact⟨_,rfl,h⟩
theorem mP{bl}{k}(h:eA bl k=1):∃st j e ps asL bo,bl=.loop st j e ps asL bo/\k st j e ps asL bo=1:=by cases bl<;>first|exact(aw h).elim|exact⟨_,_,_,_,_,_,rfl,h⟩
structure Lp(H:Heap)(b:Nat)(x:eN)(H':Heap):Prop where
 lt:b<H.n
 n:H'.n=H.n
 bD:H'.bD<=H.bD
 wb:H'.bD<=b
 get:H'.get b=x
 xf:∀j,j≠b->H'.get j=H.get j
theorem gW{id}{H}{b}{x}{k}(h:cJ id H b x k=1):∃H',k H'=1/\Lp H b x H':=by cases H with|mk n bD t=>
  have h':=h;obtain⟨h1,h2⟩:=aX h';obtain⟨t',h3,h4,h5⟩:=HT.KV _ _ _ h2;rcases bS h3 with⟨h6,h7⟩|⟨h6,h7⟩;.exact⟨_,h7,fu h1,rfl,YC _,cH h6,h4,h5⟩
  .have:b<bD:=by
    rcases Yh b bD with h|h;.omega
    .rw[WX h]at h6;cases h6
   exact⟨_,h7,fu h1,rfl,Qe this,YC _,h4,h5⟩
structure py(H:Heap)(x:eN)(H':Heap):Prop where
 n:H'.n=H.n+1bD:H'.bD=H.bD
 get:H'.get H.n=x
 xf:∀j,j≠H.n->H'.get j=H.get j
theorem dP{H}{x}{k}(h:cN H x k=1):∃H',k H.n H'=1/\py H x H':=by cases H with|mk n bD t=>have h':=h;obtain⟨t',h3,h4,h5⟩:=HT.KV _ _ _ h';exact⟨_,h3,rfl,rfl,h4,h5⟩
def rowOf:eN->Option (List V)|.cells l=>some l|.bytes len n=>some ((aF len n).map eO)|_=>none
theorem adO(x):(eO x).one=true:=rfl
theorem toI_u8(x)(h:x<256):toI .u8 x=x:=by show IntKind.u8.wrap (x:Int)=x;simp[IntKind.wrap,IntKind.bits,IntKind.signed];omega
theorem wS(mu)(x):VR mu (eO x) (.int .u8 x.toNat):=by
 have h:=x.toNat_lt;refine⟨?_,?_,by omega⟩;.show Value.int .u8 _=Value.int .u8 (toI .u8 _);rw[toI_u8 _ (by omega)]
 .show _<2^IntKind.u8.bits;simp[IntKind.bits];omega
theorem iq{bl}{row}(h:rowOf bl=some row):bl.alive/\bl≠.mark:=by cases bl<;>simp[rowOf]at h<;>exact⟨trivial,by simp⟩
theorem ZT{P}{mu}{bl}{row}{o}(h:rowOf bl=some row)(hb:BR P mu bl o):∃c e fr,o=.cells c e fr/\jV mu row c fr:=by cases bl with|cells l=>simp only[rowOf,Option.some.injEq]at h;subst h;obtain⟨c,e,fr,h1,h2,_⟩:=hb;exact⟨c,e,fr,h1,h2⟩|bytes len n=>simp only[rowOf,Option.some.injEq]at h;subst h;obtain⟨c,e,fr,h1,⟨_,h2⟩,h3⟩:=hb;refine⟨c,e,fr,h1,λi v hi=>?_,h3⟩;simp only[Yq,Yj]at hi;obtain⟨x,hx,rfl⟩:=hi;exact⟨rfl,_,h2 i x hx,wS mu x⟩|_=>simp[rowOf]at h
section
variable{P:Program}{base:Nat}{w0 w w':World}{rho:Nat->Option Nat}{H H':Heap}
theorem PR.row(h:PR P base w0 rho H w){b c:Nat}{row:List V}(hr:rho b=some c)(hrow:rowOf (H.get b)=some row):∃cs e fr,w.heap[c]?=some (.cells cs e fr)/\jV (mu rho H w) row cs fr:=by obtain⟨o,h1,h2⟩:=h.cQ b c hr;obtain⟨cs,e,fr,rfl,h3⟩:=ZT hrow h2;exact⟨cs,e,fr,h1,h3⟩
theorem PR.afY(h:PR P base w0 rho H w){b c:Nat}{l:List V}(hr:rho b=some c)(hb:H.get b=.cells l){cs:Array Value}{e:TypeId}{fr:Nat×Nat}(hw:w.heap[c]?=some (.cells cs e fr)):¬(fr.1<=cs.size/\cs.size<fr.2):=by obtain⟨o,h1,h2⟩:=h.cQ b c hr;rw[hb]at h2;obtain⟨c',e',fr',rfl,_,h3⟩:=h2;rw[hw]at h1;cases h1;exact h3
theorem PR.mE(h:PR P base w0 rho H w){b c:Nat}{row:List V}(hm:(mu rho H w).b b c)(hrow:rowOf (H.get b)=some row):rho b=some c:=hm.2 (iq hrow).1
theorem uN{v}{c}{m}(h:VR m v c)(ho:v.one=true):c.oneCell'=true:=by obtain⟨h1,h2⟩:=h.one ho;cases c<;>first|rfl|rfl|simp_all
theorem PR.cell(h:PR P base w0 rho H w){b c i:Nat}{row:List V}{v:V}(hr:rho b=some c)(hrow:rowOf (H.get b)=some row)(hi:row[i]?=some v):∃cv,w.cell? ⟨c,i,none⟩=some cv/\VR (mu rho H w) v cv/\v.one=true:=by obtain⟨cs,e,fr,h1,h2,h3⟩:=h.row hr hrow;obtain⟨h4,cv,h5,h6⟩:=h2 i v hi;exact⟨cv,by simp[World.cell?,h1,h5],h6,h4⟩
theorem jV.le{mu:M}{row:List V}{cs:Array Value}{fr:Nat×Nat}(h:jV mu row cs fr):row.length<=cs.size:=by
 rcases Yh cs.size row.length with hlt|hge;.obtain⟨_,cv,h2,_⟩:=h.1 cs.size _ (YA hlt);simp at h2
 .exact hge
theorem jV.vrs{mu:M}{row:List V}{cs:Array Value}{fr:Nat×Nat}(h:jV mu row cs fr){o n:Nat}(hn:o+n<=row.length):cA mu ((row.drop o).take n) ((cs.toList.drop o).take n):=by
 have hle:=h.le;refine cA.qh (by simp;omega) λi v c h1 h2=>?_;rw[Yy]at h1 h2;split at h1;.rename_i hi;rw[if_pos hi]at h2;rw[WB]at h1 h2;obtain⟨_,cv,h3,h4⟩:=h.1 _ _ h1;rw[Ys]at h2;rw[h3]at h2;cases h2;exact h4
 .cases h1
theorem PR.cells(h:PR P base w0 rho H w){b c o n:Nat}{row:List V}(hr:rho b=some c)(hrow:rowOf (H.get b)=some row)(hn:o+n<=row.length):∃cs:List Value,(loadCells ⟨c,o,none⟩ n).run P w=.ok cs.toArray w/\cA (mu rho H w) ((row.drop o).take n) cs/\cs.length=n:=by
 obtain⟨cs,e,fr,h1,h2⟩:=h.row hr hrow;have hle:=h2.le;refine⟨(cs.toList.drop o).take n,?_,h2.vrs hn,by simp;omega⟩;have hl:((cs.toList.drop o).take n).length=n:=by simp;omega
 have:=run_loadCells_list (P:=P) w ⟨c,o,none⟩ ((cs.toList.drop o).take n) (λj v hv=>by
  rw[Addr.add_lit];rw[Yy]at hv;split at hv;.rw[WB,Ys]at hv;simp[World.cell?,h1,hv]
  .cases hv);rwa[hl]at this
theorem iM{g o}{t}{fr}:∀(vs)(i)(cur)(w),w.heap[g]?=some (.cells cur t fr)->o+i+vs.length<=cur.size->(∀v∈vs,v.oneCell'=true)->(∀j,j<cur.size->¬(fr.1<=j/\j<fr.2))->∃w' cur',(storeCells ⟨g,o,none⟩ vs i).run P w=.ok () w'/\w'.heap[g]?=some (.cells cur' t fr)/\cur'.size=cur.size/\(∀j:Nat,cur'[j]?=if o+i<=j/\j<o+i+vs.length then vs[j-(o+i)]?else cur[j]?)/\(∀j,j≠g->w'.heap[j]?=w.heap[j]?)/\w'.heap.size=w.heap.size/\xq w w'
 |[],i,cur,w,hg,_,_,_=>⟨w,cur,rfl,hg,rfl,λj=>by rw[if_neg (by simp)],λ_ _=>rfl,rfl,rfl,rfl,rfl⟩|v::vs,i,cur,w,hg,hl,hv,hfr=>by
  simp only[YH]at hl;have hlt:o+i<cur.size:=by omega
  have hcell:w.cell? ⟨g,o+i,none⟩=some cur[o+i]:=by simp[World.cell?,hg,hlt]
  have hfz:w.frozen? ⟨g,o+i,none⟩=false:=by have:=hfr (o+i) hlt;simp only[World.frozen?,hg];simp_all
  have hg':(w.setCell ⟨g,o+i,none⟩ v).heap[g]?=some (.cells (cur.setIfInBounds (o+i) v) t fr):=by simp[World.setCell,QE,hg]
  obtain⟨w',cur',h1,h2,h3,h4,h5,h6,h7⟩:=iM (o:=o) vs (i+1) _ _ hg' (by simp;omega) (λu hu=>hv u (YI _ hu)) (by simp_all);refine⟨w',cur',?_,h2,by simp_all,λj=>?_,λj hj=>?_,?_,?_⟩;.simp only[storeCells,Sem.run_bind,Addr.add_lit,run_store P w _ v .plain (hv v (YM ..)),hcell,hfz];simp_all
  .rw[h4];simp only[YH];by_cases hj:j=o+i;.subst hj;rw[if_neg (by omega),if_pos (by omega)];simp_all
   .by_cases hj2:o+(i+1)<=j/\j<o+(i+1)+vs.length;.rw[if_pos hj2,if_pos (by omega),show j-(o+i)=(j-(o+(i+1)))+1by omega];simp
    .rw[if_neg hj2,if_neg (by omega),WV (λe=>hj e.symm)]
  .rw[h5 j hj];simp[World.setCell,QE,Ne.symm hj]
  .simp_all
  .exact⟨h7.os,h7.tape,h7.output⟩
theorem yP{id b off}{k}(h:oQ id H b off k=1):∃row v,rowOf (H.get b)=some row/\row[off]?=some v/\k v=1:=by
 unfold oQ at h;rw[aU]at h;rcases nO h with⟨l,hb,h1⟩|⟨len,n,hb,h1⟩;.obtain⟨v,h2,h3⟩:=uM h1;exact⟨l,v,by rw[hb];rfl,h2,h3⟩
 .obtain⟨h2,h3⟩:=aX h1;have hlt:=fu h2;rw[ay]at h3;refine⟨_,eO (UInt8.ofNat (n/256^off%256)),by rw[hb];rfl,by rw[Yq,sj _ _ _ hlt];rfl,?_⟩;have e:YB4 (WD n (Yn 8 off)) 255=n/256^off%256:=by show(n>>>(8*off))&&&255=_;rw[WE,QY,show(255:Nat)=2^8-1by rfl,QW]
  rw[e]at h3;simpa[eO]using h3
theorem qb{id b off n}{k}(h:fi id H b off n k=1):∃row,rowOf (H.get b)=some row/\off+n<=row.length/\k ((row.drop off).take n)=1:=by
 unfold fi at h;rw[aU]at h;rcases nO h with⟨l,hb,h1⟩|⟨len,m,hb,h1⟩;.obtain⟨h2,h3⟩:=mZ h1;obtain⟨h4,h5⟩:=lK h3;refine⟨l,by rw[hb];rfl,by simp at h4;omega,h5⟩
 .obtain⟨h2,h3⟩:=aX h1;have hle:off+n<=len:=cH h2;rw[jr]at h3;refine⟨_,by rw[hb];rfl,by simpa[aL]using hle,?_⟩;have e:WD m (Yn 8 off)=m/256^off:=by show m>>>(8*off)=_;rw[WE,QY]
  rw[e]at h3;rw[<-YC0,<-YC1,jS _ _ _ (by omega),jT _ _ _ (by omega)];omega
def oU:eN->Option (List V)|.view l=>some l|bl=>rowOf bl
theorem HV{bl}{row}(h:oU bl=some row):bl.alive:=by cases bl<;>simp[oU,rowOf]at h<;>trivial
theorem PR.aia(h:PR P base w0 rho H w){b c:Nat}{row:List V}(hr:rho b=some c)(hrow:oU (H.get b)=some row):∃cs e fr,w.heap[c]?=some (.cells cs e fr)/\∀(i:Nat)(v:V),row[i]?=some v->(v.one=true\/rowOf (H.get b)=some row)->v.one=true/\(∃cv,cs[i]?=some cv/\VR (mu rho H w) v cv)/\¬(fr.1<=i/\i<fr.2):=by
 by_cases ho:rowOf (H.get b)=some row;.obtain⟨cs,e,fr,h1,h2⟩:=h.row hr ho;refine⟨cs,e,fr,h1,λi v hi _=>?_⟩;obtain⟨h3,cv,h4,h5⟩:=h2.1 i v hi;exact⟨h3,⟨cv,h4,h5⟩,h2.2 i (YO.1 h4).1⟩
 .obtain⟨o,h1,h2⟩:=h.cQ b c hr
  cases hb:H.get b with|view l=>rw[hb]at h2 hrow;simp only[oU,Option.some.injEq]at hrow;subst hrow;obtain⟨cs,e,fr,rfl,h3⟩:=h2;exact⟨cs,e,fr,h1,λi v hi hv=>by
    rcases hv with hv|hv;.exact⟨hv,h3 i v hi hv⟩
    .simp [rowOf]at hv⟩|_=>rw[hb]at hrow ho;exact absurd hrow ho
theorem PR.zE(h:PR P base w0 rho H w){b c:Nat}{row:List V}(hm:(mu rho H w).b b c)(hrow:oU (H.get b)=some row):rho b=some c:=hm.2 (HV hrow)
theorem PR.U0(h:PR P base w0 rho H w){b c i:Nat}{row:List V}{v:V}(hr:rho b=some c)(hrow:oU (H.get b)=some row)(hi:row[i]?=some v)(ho:v.one=true\/rowOf (H.get b)=some row):∃cv,w.cell? ⟨c,i,none⟩=some cv/\VR (mu rho H w) v cv/\v.one=true/\w.frozen? ⟨c,i,none⟩=false:=by obtain⟨cs,e,fr,h1,h2⟩:=h.aia hr hrow;obtain⟨h3,⟨cv,h4,h5⟩,h6⟩:=h2 i v hi ho;exact⟨cv,by simp[World.cell?,h1,h4],h5,h3,by simp only[World.frozen?,h1];simpa using h6⟩
theorem PR.KJ(h:PR P base w0 rho H w){b c o n:Nat}{row:List V}(hr:rho b=some c)(hrow:oU (H.get b)=some row)(hn:o+n<=row.length)(ho:(∀v∈(row.drop o).take n,v.one=true)\/rowOf (H.get b)=some row):∃cs:List Value,(loadCells ⟨c,o,none⟩ n).run P w=.ok cs.toArray w/\cA (mu rho H w) ((row.drop o).take n) cs/\cs.length=n/\∀(j:Nat)(cv:Value),cs[j]?=some cv->w.cell? ⟨c,o+j,none⟩=some cv/\cv.oneCell'=true/\w.frozen? ⟨c,o+j,none⟩=false:=by
 have key:∀j,j<n->∃(v:V)(cv:Value),row[o+j]?=some v/\w.cell? ⟨c,o+j,none⟩=some cv/\VR (mu rho H w) v cv/\cv.oneCell'=true/\w.frozen? ⟨c,o+j,none⟩=false:=λj hj=>by have hi:row[o+j]?=some row[o+j]:=YA (by omega);have ho':row[o+j].one=true\/rowOf (H.get b)=some row:=ho.imp (λh=>h _ (by refine Yb (i:=j) ?_;rw[Yy,if_pos hj,WB];exact hi)) id;obtain⟨cv,a1,a2,a3,a4⟩:=h.U0 hr hrow hi ho';exact⟨_,cv,hi,a1,a2,uN a2 a3,a4⟩
 let cs:List Value:=(WY n).map λj=>(w.cell? ⟨c,o+j,none⟩).getD undef;have hcs:∀(j:Nat)(cv:Value),cs[j]?=some cv->j<n/\w.cell? ⟨c,o+j,none⟩=some cv:=λj cv hj=>by
  have hlt:j<n:=by have:=(List.getElem?_eq_some_iff.1 hj).1;simpa[cs]using this
  obtain⟨v,cv',_,a1,_⟩:=key j hlt;refine⟨hlt,?_⟩;simp only[cs,Yq,List.getElem?_range hlt,Option.map_some,a1,YU,Option.some.injEq]at hj;rw[a1,hj]
 have hl:cs.length=n:=by simp[cs]
 refine⟨cs,?_,?_,hl,λj cv hj=>?_⟩;.have:=run_loadCells_list (P:=P) w ⟨c,o,none⟩ cs (λj v hv=>by rw[Addr.add_lit];exact(hcs j v hv).2);rwa[hl]at this
 .refine cA.qh (by simp[cs];omega) λi v cv h1 h2=>?_;obtain⟨hi,h3⟩:=hcs i cv h2;obtain⟨v',cv',a1,a2,a3,_⟩:=key i hi;rw[Yy,if_pos hi,WB,a1]at h1;cases h1;rw[h3]at a2;cases a2;exact a3
 .obtain⟨hj',h3⟩:=hcs j cv hj;obtain⟨v',cv',a1,a2,a3,a4,a5⟩:=key j hj';rw[h3]at a2;cases a2;exact⟨h3,a4,a5⟩
theorem RN{id}{bl}{kc}{kb}{kv}(h:bRd id bl kc kb kv=1):(∃l,bl=.cells l/\kc l=1)\/(∃len n,bl=.bytes len n/\kb len n=1)\/∃l,bl=.view l/\kv l=1:=by cases bl<;>first|exact(aw h).elim|exact YF ⟨_,rfl,h⟩|exact YD (YF ⟨_,_,rfl,h⟩)|exact YD (YD ⟨_,rfl,h⟩)
theorem BM{id}{v}{k}(h:ef id v k=1):v.one=true/\k=1:=by cases v<;>first|exact(aw h).elim|exact⟨rfl,h⟩
theorem xz{id}:∀{l}{k},bB id l k=1->(∀v∈l,v.one=true)/\k=1|[],k,h=>⟨λ_ h=>absurd h (by simp),h⟩|v::l,k,h=>by obtain⟨h1,h2⟩:=BM (show ef id v (bB id l k)=1from h);obtain⟨h3,h4⟩:=xz h2;simp_all
theorem U2{id b off}{k}(h:MI id H b off k=1):∃row v,oU (H.get b)=some row/\row[off]?=some v/\(v.one=true\/rowOf (H.get b)=some row)/\k v=1:=by
 unfold MI at h;rw[aU]at h;rcases RN h with⟨l,hb,h1⟩|⟨len,n,hb,h1⟩|⟨l,hb,h1⟩;.obtain⟨row,v,h2,h3,h4⟩:=yP (id:=id) (by unfold oQ;rw[aU,hb];exact h1);rw[hb]at h2;exact⟨row,v,by rw[hb];exact h2,h3,YD (by simp_all),h4⟩
 .obtain⟨row,v,h2,h3,h4⟩:=yP (id:=id) (by unfold oQ;rw[aU,hb];exact h1);rw[hb]at h2;exact⟨row,v,by rw[hb];exact h2,h3,YD (by simp_all),h4⟩
 .obtain⟨v,h2,h3⟩:=uM h1;obtain⟨h4,h5⟩:=BM h3;exact⟨l,v,by rw[hb];rfl,h2,YF h4,h5⟩
theorem KK{id b off n}{k}(h:HG id H b off n k=1):∃row,oU (H.get b)=some row/\off+n<=row.length/\((∀v∈(row.drop off).take n,v.one=true)\/rowOf (H.get b)=some row)/\k ((row.drop off).take n)=1:=by
 unfold HG at h;rw[aU]at h;rcases RN h with⟨l,hb,h1⟩|⟨len,m,hb,h1⟩|⟨l,hb,h1⟩;.obtain⟨row,h2,h3,h4⟩:=qb (by unfold fi;rw[aU,hb];exact h1);rw[hb]at h2;exact⟨row,by rw[hb];exact h2,h3,YD (by simp_all),h4⟩
 .obtain⟨row,h2,h3,h4⟩:=qb (id:=id) (by unfold fi;rw[aU,hb];exact h1);rw[hb]at h2;exact⟨row,by rw[hb];exact h2,h3,YD (by simp_all),h4⟩
 .obtain⟨h2,h3⟩:=mZ h1;obtain⟨h4,h5⟩:=lK h3;obtain⟨h6,h7⟩:=xz h5;exact⟨l,by rw[hb];rfl,by simp at h4;omega,YF h6,h7⟩
def Cp(l:List V)(x:Nat):Prop:=l=(aF l.length x).map eO/\x<256^l.length
def Cr(l:List V):Prop:=∀v∈l,∀x,v=.int 4 x->x<256
theorem yO{id b off n}{k}(h:nv id H b off n k=1):∃row x,rowOf (H.get b)=some row/\off+n<=row.length/\k x=1/\(∀v∈(row.drop off).take n,∃x,v=.int 4 x)/\(Cr ((row.drop off).take n)->Cp ((row.drop off).take n) x):=by
 unfold nv at h;rw[aU]at h;rcases nO h with⟨l,hb,h1⟩|⟨len,m,hb,h1⟩;.obtain⟨h2,h3⟩:=mZ h1;obtain⟨h4,h5⟩:=lK h3;obtain⟨x,h6,h60,h7⟩:=qj h5;exact⟨l,x,by rw[hb];rfl,by simp at h4;omega,h6,h60,h7⟩
 .obtain⟨h2,h3⟩:=aX h1;have hle:off+n<=len:=cH h2;rw[ay]at h3;refine⟨_,_,by rw[hb];rfl,by simpa[aL]using hle,h3,λv hv=>?_,λ_=>?_⟩;.rw[<-YC0,<-YC1]at hv;obtain⟨y,_,rfl⟩:=List.mem_map.1 hv;exact⟨_,rfl⟩
  have e:Yx (WD m (Yn 8 off)) (YE3 256 n)=m/256^off%256^n:=by show(m>>>(8*off))%256^n=_;rw[WE,QY]
  rw[e];have hl:(((aF len m).map eO).drop off|>.take n).length=n:=by simp[aL];omega
  refine⟨?_,by rw[hl];omega⟩;rw[hl,<-YC0,<-YC1,jS _ _ _ (by omega),jT _ _ _ (by omega)];congr 1;exact oE _ _ _ (by simp)
theorem VR.X6{m:M}{x:Nat}{c:Value}(h:VR m (.int 4 x) c):x<256/\c=.int .u8 x:=by simp only[VR]at h;obtain⟨h1,h2,_⟩:=h;have h3:x<256:=h2;exact⟨h3,h1.trans (by show Value.int .u8 (toI .u8 x)=_;rw[toI_u8 x h3])⟩
theorem cA.mem{m:M}{l:List V}{cs:List Value}(h:cA m l cs){v:V}(hv:v∈l):∃c∈cs,VR m v c:=by obtain⟨i,hi⟩:=Wg hv;obtain⟨c,h1,h2⟩:=h.get hi;exact⟨c,Yb h1,h2⟩
theorem cA.small{m:M}{l:List V}{cs:List Value}(h:cA m l cs):Cr l:=λv hv x e=>by obtain⟨c,_,h2⟩:=h.mem hv;subst e;exact h2.X6.1
theorem AQ{len x off ml mx:Nat}(hx:x<256^len)(hm:mx<256^ml)(hl:off+ml<=len):aF len (Yi (Yx x (YE3 256 off)) (Yt (Yi mx (Yt (WD x (Yn 8 (Yi off ml))) (Yn 8 ml))) (Yn 8 off)))=(aF len x).take off++(aF ml mx++(aF len x).drop (off+ml))/\Yi (Yx x (YE3 256 off)) (Yt (Yi mx (Yt (WD x (Yn 8 (Yi off ml))) (Yn 8 ml))) (Yn 8 off))<256^len:=by
 have e1:WD x (Yn 8 (Yi off ml))=x/256^(off+ml):=by show x>>>(8*(off+ml))=_;rw[WE,QY]
 have e2:∀y k,Yt y (Yn 8 k)=256^k*y:=λy k=>by show y<<<(8*k)=_;rw[Qs,QY,Ww]
 rw[e1,e2,e2];show aF len (x%256^off+256^off*(mx+256^ml*(x/256^(off+ml))))=_/\x%256^off+256^off*(mx+256^ml*(x/256^(off+ml)))<_;have hp:0<256^off:=Nat.pow_pos (by simp);have hmod:x%256^off<256^off:=Qq _ hp;have hd:=by apply YG1;rw[<-YG2,show off+ml+(len-off-ml)=len by omega];omega
 constructor;.have:=fI off (ml+(len-off-ml)) (x%256^off) (mx+256^ml*(x/256^(off+ml))) hmod;rw[show off+(ml+(len-off-ml))=len by omega]at this;rw[this,fI ml _ _ _ hm,jT _ _ _ (by omega),jS _ _ _ hl,show len-(off+ml)=len-off-ml by omega];rw[oE off (x%256^off) x (by simp)]
 .have h1:=by calc mx+256^ml*(x/256^(off+ml))<256^ml+256^ml*(x/256^(off+ml)):=by omega
    _=256^ml*(x/256^(off+ml)+1):=by rw[YM4,Wb,YH0]
    _<=256^ml*256^(len-off-ml):=YB2 _ hd
  calc x%256^off+256^off*(mx+256^ml*(x/256^(off+ml)))<256^off+256^off*(mx+256^ml*(x/256^(off+ml))):=by omega
   _=256^off*(mx+256^ml*(x/256^(off+ml))+1):=by rw[YM4 _ _ 1,Wb,YH0]
   _<=256^off*(256^ml*256^(len-off-ml)):=YB2 _ h1
   _=256^len:=by rw[<-YG2,<-YG2];congr 1;omega
theorem jV.Vs{mu:M}{row m:List V}{cs cs':Array Value}{ms:List Value}{fr:Nat×Nat}{o:Nat}(h:jV mu row cs fr)(hm:cA mu m ms)(h1:∀v∈m,v.one=true)(hl:o+m.length<=row.length)(hsz:cs'.size=cs.size)(hg:∀j:Nat,cs'[j]?=if o+0<=j/\j<o+0+ms.length then ms[j-(o+0)]?else cs[j]?):jV mu (row.take o++(m++row.drop (o+m.length))) cs' fr:=by
 refine⟨λi v hi=>?_,by rw[hsz];exact h.2⟩;have hml:=hm.length;rw[hg];by_cases hi1:i<o;.rw[Yp (by simp;omega),Yy,if_pos hi1]at hi;rw[if_neg (by omega)];exact h.1 i v hi
 .rw[Ym (by simp;omega)]at hi;rw[show(row.take o).length=o by simp;omega]at hi;by_cases hi2:i-o<m.length;.rw[Yp hi2]at hi;rw[if_pos (by omega)];obtain⟨c,h2,h3⟩:=hm.get hi;exact⟨h1 v (Yb hi),c,by simpa using h2,h3⟩
  .rw[Ym (by omega),WB,show o+m.length+(i-o-m.length)=i by omega]at hi;rw[if_neg (by omega)];exact h.1 i v hi
theorem Ek{mm}{m}{ms}(hv:cA mm m ms)(hone:∀v∈m,v.one=true):∀u∈ms,u.oneCell'=true:=λu hu=>by
 obtain⟨i,hi⟩:=Wg hu;have hlt:i<m.length:=by
  rw[<-hv.length];rcases Yh i ms.length with h|h;.omega
  simp_all
 obtain⟨c',h3,h4⟩:=hv.get (YA hlt);rw[hi]at h3;cases h3;exact uN h4 (hone _ (List.getElem_mem hlt))
theorem zU{id b off}{m}{k}(h1:ei id H b off m k=1):∀v∈m,v.one=true:=by
 unfold ei at h1;rw[aU]at h1;rcases nO h1 with⟨l,hb,h2⟩|⟨len,x,hb,h2⟩;.exact(fE h2).1
 .obtain⟨mx,h3,h30,h4⟩:=qj h2;exactλv hv=>by obtain⟨x,rfl⟩:=h30 v hv;rfl
end
abbrev WF(rd:Option Nat):Fence:={fn:=λ_=>True,depth:=none,alive:=false,round:=rd}
def aA(a:Arg)(e:Env):V:=match a with|.s s=>af s e|.c v=>v
theorem aq(a)(e)(k):aJ a e k=k (aA a e):=by cases a with|s s=>exact eC s e k|c v=>rfl
theorem iF:∀(l)(e)(k),pT l e k=k (l.map (aA · e))|[],_,_=>rfl|a::l,e,k=>by show aJ a e (λv=>pT l e λr=>k (v::r))=_;rw[aq,iF];rfl
theorem rQ{mu}{v}{u}(h:nR v=some u):VR mu u v/\u.one=true:=by
 unfold nR at h;split at h;.cases h;exact⟨by rfl,rfl⟩
 .rename_i k n;split at h
  .rename_i hw;have hw':=by simpa using hw
   cases h;refine⟨?_,rfl⟩;have hm0:0<=n%(2^k.bits:Nat):=Int.emod_nonneg _ (by cases k<;>decide);have hm1:n%(2^k.bits:Nat)<(2^k.bits:Nat):=Int.emod_lt_of_pos _ (by omega);simp only[VR,dQ];refine⟨?_,?_,yG k⟩
   .congr 1;show n=k.wrap _;rw[Int.toNat_of_nonneg hm0];conv=>lhs;rw[<-hw']
    unfold IntKind.wrap;simp
   .unfold fJ;omega
  simp_all
 .cases h;refine⟨?_,rfl⟩;simp only[VR];rw[fW];exact⟨rfl,jj _⟩
 all_goals first|(cases h;exact⟨by rfl,rfl⟩)|cases h
theorem mW{mu}:∀{l}{r},consts l=some r->cA mu r l/\∀u∈r,u.one=true
 |[],r,h=>by simp only[consts,Option.some.injEq]at h;subst h;exact⟨by rfl,λ_ h=>absurd h (by simp)⟩|v::l,r,h=>by
  simp only[consts]at h;split at h;.rename_i u r' h1 h2;cases h;obtain⟨h3,h4⟩:=rQ h1;obtain⟨h5,h6⟩:=mW h2;exact⟨by exact⟨v,l,rfl,h3,h5⟩,λx hx=>(YN.1 hx).elim (λe=>e▸h4) (h6 x)⟩
  simp_all
theorem um{mu}{v}{u}(h:CM v=some u):VR mu u v:=by
 unfold CM at h;split at h;.simp only[Yj]at h;obtain⟨r,h1,rfl⟩:=h;exact⟨_,rfl,(mW h1).1⟩
 .simp only[Yj]at h;obtain⟨r,h1,rfl⟩:=h;exact⟨_,rfl,(mW h1).1⟩
 .exact(rQ h).1
theorem lf{mu}{nt}{e}{a:Act}{x}{ar}(ht:TR mu nt e a.tmps)(h:aN nt x=some ar):VR mu (aA ar e) (a.eval x):=by
 unfold aN at h;split at h
 .rename_i t;split at h
  .cases h;have hs:=ht.size;have hlt':t<a.tmps.size:=by simp_all
   have hex:=Array.getElem?_eq_getElem hlt';have:=ht.get t _ hex;simpa[aA,Act.eval,hex]using this
  simp_all
 .simp only[Yj]at h;obtain⟨u,h1,rfl⟩:=h;exact um h1
 .cases h;simp only[aA,Act.eval,VR];exact⟨#[],by simp,by rfl⟩
 simp_all
def OR(mu:M)(nt:Nat)(e:Env)(a:Act)(o:Oper):Prop:=∀x∈o.op.operands,∀ar,aN nt x=some ar->VR mu (aA ar e) (a.eval x)
theorem TR.or{mu:M}{nt:Nat}{e:Env}{a:Act}(h:TR mu nt e a.tmps)(o:Oper):OR mu nt e a o:=λ_ _ _ h1=>lf h h1
def Left(P:Program)(base:Nat)(w0:World)(rho:Nat->Option Nat)(H:Heap)(w:World)(v:V)(H':Heap)(cv:Value)(w':World):Prop:=∃rho',VR (mu rho' H' w') v cv/\PR P base w0 rho' H' w'/\Ext rho H w rho' H' w'
def fD(P:Program)(nt:Nat)(o:Oper)(e:Env)(H:Heap)(v:V)(H':Heap):Prop:=∀(rd:Option Nat)(base:Nat)(w0:World)(rho:Nat->Option Nat)(w:World)(a:Act),PR P base w0 rho H w->OR (mu rho H w) nt e a o->o.wpIn (WF rd) 0 P a w (λa' w'=>∃cv,a'=a.put o.dst cv/\Left P base w0 rho H w v H' cv w') (λ_ _ _=>False)
def FSp(P:Program)(x:V)(args:List V)(H:Heap)(v:V)(H':Heap):Prop:=∀(rd:Option Nat)(base:Nat)(w0:World)(rho:Nat->Option Nat)(w:World)(cx:Value)(cargs:Array Value),PR P base w0 rho H w->VR (mu rho H w) x cx->cA (mu rho H w) args cargs.toList->∀(o:Oper)(a:Act),o.uponIn (WF rd) 0 P a (λa' w'=>∃cv,a'=a.put o.dst cv/\Left P base w0 rho H w v H' cv w') (λ_ _ _=>False) ((do let d<-Deferred.ofValue cx cargs;invoke d.target d.args:Sem Next).run P w)
def iR(P:Program)(f:FuncId)(args:List V)(H:Heap)(v:V)(H':Heap):Prop:=∀(base:Nat)(w0:World)(rho:Nat->Option Nat)(w:World)(cargs:Array Value),PR P base w0 rho H w->cA (mu rho H w) args cargs.toList->(callFunc f cargs).run P w=.ok (.enter f cargs) w/\CallsIn (WF none) 0 P f cargs w λe w'=>∃cv,e=.returned cv/\Left P base w0 rho H w v H' cv w'
def FSq(P:Program)(x:V)(args:List V)(H:Heap)(v:V)(H':Heap):Prop:=FSp P x args H v H'/\∀f caps,x=.func (2*f) caps->iR P f (args++caps) H v H'
def jC(P:Program)(ph:dz):Prop:=∀x args H k,ph x args H k=1->∃v H',FSq P x args H v H'/\k v H'=1
theorem iY(P)(o:Oper)(a:Act)(w)(rd):∀f,o.about P w a.eval=some f->(WF rd).fn f:=λ_ _=>trivial
theorem semAt_eq{o}{rd}{r}(h:∀c,o.op≠.defer c):o.semAt rd r=execOp r o:=by unfold Oper.semAt;simp_all
theorem fD.of_run{P:Program}{nt:Nat}{o:Oper}{e:Env}{H H':Heap}{v:V}(hnd:∀c,o.op≠.defer c)(h:∀(base:Nat)(w0:World)(rho:Nat->Option Nat)(w:World)(a:Act),PR P base w0 rho H w->OR (mu rho H w) nt e a o->∃cv w',(execOp a.eval o).run P w=.ok (.value cv) w'/\Left P base w0 rho H w v H' cv w'):fD P nt o e H v H':=by intro rd base w0 rho w a hp ho;obtain⟨cv,w',h1,h2⟩:=h base w0 rho w a hp ho;refine⟨iY P o a w rd,?_⟩;rw[semAt_eq hnd,h1];exact⟨cv,rfl,h2⟩
theorem fD.Dy{P:Program}{nt:Nat}{o:Oper}{e:Env}{H H':Heap}(hnd:∀c,o.op≠.defer c)(h:∀(base:Nat)(w0:World)(rho:Nat->Option Nat)(w:World)(a:Act),PR P base w0 rho H w->OR (mu rho H w) nt e a o->∃w',(execOp a.eval o).run P w=.ok .skip w'/\∃rho',PR P base w0 rho' H' w'/\Ext rho H w rho' H' w'):fD P nt o e H (.cG []) H':=by intro rd base w0 rho w a hp ho;obtain⟨w',h1,rho',h2,h3⟩:=h base w0 rho w a hp ho;refine⟨iY P o a w rd,?_⟩;rw[semAt_eq hnd,h1];exact⟨undef,rfl,rho',by simp only[VR];exact⟨#[],rfl,by simp only[cA]⟩,h2,h3⟩
theorem fD.bN{P:Program}{nt:Nat}{o:Oper}{e:Env}{H:Heap}{v:V}(hnd:∀c,o.op≠.defer c)(h:∀(m:M)(w:World)(a:Act),OR m nt e a o->∃cv,(execOp a.eval o).run P w=.ok (.value cv) w/\VR m v cv):fD P nt o e H v H:=fD.of_run hnd λbase w0 rho w a hp ho=>by obtain⟨cv,h1,h2⟩:=h _ w a ho;exact⟨cv,w,h1,rho,h2,hp,Ext.refl hp.lt⟩
section
variable{P:Program}{nt:Nat}{o:Oper}{id:Nat}{ph:dz}{e:Env}{H:Heap}{k:K}
def Good(P:Program)(nt:Nat)(o:Oper)(e:Env)(H:Heap)(k:K):Prop:=∃v H',fD P nt o e H v H'/\k v H'=1
theorem Vd{x}(hop:o.op=.move x\/o.op=.assign x)(h:aQ (ai P nt o) id ph e H k=1):Good P nt o e H k:=by
 have hc:ai P nt o=match aN nt x with|some a=>.lz a|none=>.bad:=by rcases hop with h|h<;>simp only[ai,h]<;>rfl
 rw[hc]at h;split at h;.rename_i a ha;have h':aJ a e (λv=>k v H)=1:=h;rw[aq]at h';refine⟨_,_,fD.bN (by rcases hop with h|h<;>simp[h]) λm w ac ho=>?_,h'⟩;exact⟨ac.eval x,by rcases hop with h|h<;>simp[execOp,h],ho x (by rcases hop with h|h<;>simp[Op.operands,h]) a ha⟩
 .exact(aw h).elim
theorem adi{c x y}(hop:o.op=.pick c x y)(h:aQ (ai P nt o) id ph e H k=1):Good P nt o e H k:=by
 simp only[ai,hop]at h;split at h
 .rename_i c' x' y' hc hx hy;have h':aJ c' e (λc=>fm id c λb=>aH b (aJ x' e λv=>k v H) (aJ y' e λv=>k v H))=1:=h;rw[aq]at h';obtain⟨b,hb,h2⟩:=nH h';rw[aq,aq]at h2;cases b;.refine⟨_,_,fD.bN (by simp_all) λm w ac ho=>?_,h2⟩;have h3:=ho c (by simp[Op.operands,hop]) c' hc;rw[hb]at h3;simp only[VR]at h3;exact⟨ac.eval y,by simp[execOp,hop,h3,asBool],ho y (by simp[Op.operands,hop]) y' hy⟩
  .refine⟨_,_,fD.bN (by simp_all) λm w ac ho=>?_,h2⟩;have h3:=ho c (by simp[Op.operands,hop]) c' hc;rw[hb]at h3;simp only[VR]at h3;exact⟨ac.eval x,by simp[execOp,hop,h3,asBool],ho x (by simp[Op.operands,hop]) x' hx⟩
 .exact(aw h).elim
end
end Go.Ev
end
section
namespace Go.Ev
theorem fL(m n:Nat):YR m n=decide (m=n):=by
 by_cases h:m=n;.simp_all
 .rw[decide_eq_false h];cases hq:YR m n with|false=>rfl|true=>simp_all
theorem VZ(k:IntKind)(x):k.wrap x%(2^k.bits:Int)=x%(2^k.bits:Int):=by cases k<;>simp only[IntKind.wrap,IntKind.bits,IntKind.signed,YO4,Qt]<;>(simp)<;>omega
theorem sE(k:IntKind){x y}(h:x%(2^k.bits:Int)=y%(2^k.bits:Int)):k.wrap x=k.wrap y:=by unfold IntKind.wrap;rw[h]
theorem adT(k):((fJ k:Nat):Int)=2^k.bits:=by rfl
theorem qB(k){x}{n:Nat}(h:x%(2^k.bits:Int)=(n:Int)%(2^k.bits:Int)):k.wrap x=toI k n:=sE k h
theorem toI_mod(k)(n):toI k n%(2^k.bits:Int)=(n:Int)%(2^k.bits:Int):=VZ k _
theorem yF(k):0<fJ k:=by cases k<;>decide
theorem toI_small(k)(n)(h:n<half k):toI k n=n:=by show k.wrap (n:Int)=n;cases k<;>simp only[half,IntKind.wrap,IntKind.bits,IntKind.signed,YO4,Qt,if_true,YV,if_false]at*<;>(simp)<;>first|omega|(simp at h2)|rfl
theorem toI_off(k)(n)(h:n<fJ k):toI k n=(((n+eo k)%2^k.bits:Nat):Int)-(eo k:Nat):=by show k.wrap (n:Int)=_;cases k<;>simp[eo,IntKind.wrap,IntKind.bits,IntKind.signed]at*<;>(omega)<;>omega
theorem toI_inj(k){a b}(ha:a<fJ k)(hb:b<fJ k)(h:toI k a=toI k b):a=b:=by have h1:=toI_mod k a;rw[h,toI_mod k b]at h1;have e1:(a:Int)%2^k.bits=a:=YI3 (by omega) (by exact_mod_cast ha);have e2:(b:Int)%2^k.bits=b:=YI3 (by omega) (by exact_mod_cast hb);omega
theorem toI_64{n}{kd}(hk:3<=kd)(hk8:kd<8)(h:n<9223372036854775808)(hm:n<fJ (pZ kd)):toI (pZ kd) n=n:=by refine toI_small _ _ ?_;rcases(by omega:kd=3\/kd=4\/kd=5\/kd=6\/kd=7)with rfl|rfl|rfl|rfl|rfl<;>simp[pZ,half,IntKind.signed,IntKind.bits,fJ]at*<;>omega
theorem vv(k){a}(h:a<fJ k):BitVec.ofInt k.bits (toI k a)=BitVec.ofNat k.bits a:=by apply BitVec.eq_of_toNat_eq;rw[BitVec.toNat_ofInt,BitVec.toNat_ofNat];have:=toI_mod k a;rw[show((2^k.bits:Nat):Int)=(2:Int)^k.bits by simp,this];rfl
section
variable{P:Program}{w:World}
theorem RP{t:TypeId}{op:BinOp}{k ky:IntKind}{f:BF}{id a b:Nat}{c:Nat->R}(hf:abO op k=some f)(hky:(tG op=false/\ky=k)\/(tG op=true/\(ky.signed=true->ky.bits=64)))(h:iE id f a b c=1):∃r,c r=1/\(a<fJ k->b<fJ ky->r<fJ k/\∀w:World,(binOp op t (.int k (toI k a)) (.int ky (toI ky b))).run P w=.ok (.int k (toI k r)) w):=by
 have hM:(0:Int)<2^k.bits:=by cases k<;>decide
 have hMn:fJ k=2^k.bits:=rfl;have hpos:=yF k;have am:=toI_mod k a;cases op<;>simp only[abO,Option.some.injEq,reduceCtorEq]at hf<;>subst hf
 .rcases hky with⟨_,rfl⟩|⟨hs,_⟩;.have bm:=toI_mod ky b;have h':av (Yx (Yi a b) (2^ky.bits)) c=1:=h;rw[ay]at h';refine⟨_,h',λha hb=>⟨Qq _ hpos,λw=>?_⟩⟩;simp only[binOp,ne_eq,not_true_eq_false,if_false,Op.intArith,Sem.run_pure];congr 2;refine qB ky ?_;rw[Int.add_emod,am,bm,<-Int.add_emod];show _=(((a+b)%2^ky.bits:Nat):Int)%_;simp
  .cases hs
 .rcases hky with⟨_,rfl⟩|⟨hs,_⟩;.have bm:=toI_mod ky b;have h':av (Yx (Yi a (QO (2^ky.bits) b)) (2^ky.bits)) c=1:=h;rw[ay]at h';refine⟨_,h',λha hb=>⟨Qq _ hpos,λw=>?_⟩⟩;simp only[binOp,ne_eq,not_true_eq_false,if_false,Op.intArith,Sem.run_pure];congr 2;refine qB ky ?_;rw[Int.sub_emod,am,bm,<-Int.sub_emod];show _=(((a+(2^ky.bits-b))%2^ky.bits:Nat):Int)%_;have hb':b<2^ky.bits:=hb;rw[Int.natCast_emod,Int.natCast_add,Int.natCast_sub (Qe hb')];simp only[Int.natCast_pow,Int.cast_ofNat_Int,Int.emod_emod_of_dvd _ (Int.dvd_refl _)];rw[show(a:Int)+(2^ky.bits-(b:Int))=((a:Int)-b)+2^ky.bits by omega,Int.add_emod_right]
  .cases hs
 .rcases hky with⟨_,rfl⟩|⟨hs,_⟩;.have bm:=toI_mod ky b;have h':av (Yx (Yn a b) (2^ky.bits)) c=1:=h;rw[ay]at h';refine⟨_,h',λha hb=>⟨Qq _ hpos,λw=>?_⟩⟩;simp only[binOp,ne_eq,not_true_eq_false,if_false,Op.intArith,Sem.run_pure];congr 2;refine qB ky ?_;rw[YL1,am,bm,<-YL1];show _=(((a*b)%2^ky.bits:Nat):Int)%_;simp
  .cases hs
 .rcases hky with⟨_,rfl⟩|⟨hs,_⟩
  .have h':aH (WC a (half ky)) (aH (WC b (half ky)) (aH (YR b 0) (no _) (av (Wo a b) c)) (no _)) (no _)=1:=h;obtain⟨h1,h2⟩:=aX h';obtain⟨h3,h4⟩:=aX h2;rcases bS h4 with⟨_,h5⟩|⟨h5,h6⟩;.exact(aw h5).elim
   .rw[ay]at h6;have hb0:b≠0:=λe=>by subst e;cases h5
    have ha':=fu h1;have hdv:a/b<half ky:=Wy (YM1 a b) ha';refine⟨_,h6,λha hb=>⟨Wy (YM1 a b) ha,λw=>?_⟩⟩;rw[toI_small ky a ha',toI_small ky b (fu h3)];have hz:(b:Int)≠0:=by omega
    simp only[binOp,ne_eq,not_true_eq_false,if_false,Op.intDiv,hz,Sem.run_pure];congr 2
  .cases hs
 .rcases hky with⟨_,rfl⟩|⟨hs,_⟩
  .have h':aH (WC a (half ky)) (aH (WC b (half ky)) (aH (YR b 0) (no _) (av (Yx a b) c)) (no _)) (no _)=1:=h;obtain⟨h1,h2⟩:=aX h';obtain⟨h3,h4⟩:=aX h2;rcases bS h4 with⟨_,h5⟩|⟨h5,h6⟩;.exact(aw h5).elim
   .rw[ay]at h6;have hb0:b≠0:=λe=>by subst e;cases h5
    have ha':=fu h1;have hdv:a%b<half ky:=Wy (Nat.mod_le a b) ha';refine⟨_,h6,λha hb=>⟨Wy (Nat.mod_le a b) ha,λw=>?_⟩⟩;rw[toI_small ky a ha',toI_small ky b (fu h3)];have hz:(b:Int)≠0:=by omega
    simp only[binOp,ne_eq,not_true_eq_false,if_false,Op.intDiv,hz,Sem.run_pure];congr 2;show(a:Int).tmod (b:Int)=toI ky (a%b);rw[toI_small ky _ hdv];rfl
  .cases hs
 .rcases hky with⟨_,rfl⟩|⟨hs,_⟩;.have h':av (YB4 a b) c=1:=h;rw[ay]at h';refine⟨_,h',λha hb=>⟨Wy YS0 ha,λw=>?_⟩⟩;simp only[binOp,ne_eq,not_true_eq_false,if_false,Op.intBits,vv ky ha,vv ky hb,Sem.run_pure];congr 2;show ky.wrap _=toI ky (a&&&b);rw[BitVec.toNat_and,BitVec.toNat_ofNat,BitVec.toNat_ofNat,WH (show a<2^ky.bits from ha),WH (show b<2^ky.bits from hb)];rfl
  .cases hs
 .rcases hky with⟨_,rfl⟩|⟨hs,_⟩;.have h':av (Nat.lor a b) c=1:=h;rw[ay]at h';refine⟨_,h',λha hb=>⟨Nat.or_lt_two_pow (n:=ky.bits) ha hb,λw=>?_⟩⟩;simp only[binOp,ne_eq,not_true_eq_false,if_false,Op.intBits,vv ky ha,vv ky hb,Sem.run_pure];congr 2;show ky.wrap _=toI ky (a|||b);rw[BitVec.toNat_or,BitVec.toNat_ofNat,BitVec.toNat_ofNat,WH (show a<2^ky.bits from ha),WH (show b<2^ky.bits from hb)];rfl
  .cases hs
 .rcases hky with⟨_,rfl⟩|⟨hs,_⟩;.have h':av (YQ1 a b) c=1:=h;rw[ay]at h';refine⟨_,h',λha hb=>⟨Nat.xor_lt_two_pow (n:=ky.bits) ha hb,λw=>?_⟩⟩;simp only[binOp,ne_eq,not_true_eq_false,if_false,Op.intBits,vv ky ha,vv ky hb,Sem.run_pure];congr 2;show ky.wrap _=toI ky (a^^^b);rw[BitVec.toNat_xor,BitVec.toNat_ofNat,BitVec.toNat_ofNat,WH (show a<2^ky.bits from ha),WH (show b<2^ky.bits from hb)];rfl
  .cases hs
 .rcases hky with⟨hs,_⟩|⟨_,hk⟩;.cases hs
  have hbs:∀(hb:b<fJ ky)(hlt:b<9223372036854775808),toI ky b=b:=λhb hlt=>by
   refine toI_small _ _ ?_;unfold half fJ at*;split;.rename_i hs;rw[hk hs];omega
   .exact hb
  have hbits:k.bits<=64:=by cases k<;>decide
  have h':aH (Yd b k.bits) (av (Yx (Yt a b) (2^k.bits)) c) (aH (WC b 9223372036854775808) (c 0) (no _))=1:=h;rcases bS h' with⟨h1,h2⟩|⟨h1,h2⟩
  .have hle:=cH h1;rw[ay]at h2;refine⟨_,h2,λha hb=>⟨Qq _ hpos,λw=>?_⟩⟩;have hn:¬((b:Int)<0):=by omega
   simp only[binOp,Op.shift,hbs hb (by omega),hn,if_false,Sem.run_pure,YA1,Ws hle];congr 2;refine qB k ?_;rw[YL1,am,<-YL1];show _=(((a<<<b)%2^k.bits:Nat):Int)%_;rw[Qs];simp
  .obtain⟨h3,h4⟩:=aX h2;have hgt:k.bits<=b:=by
    rcases Yh k.bits b with hlt|hge;.omega
    .rw[WX hge]at h1;cases h1
   refine⟨0,h4,λha hb=>⟨hpos,λw=>?_⟩⟩;have hn:¬((b:Int)<0):=by omega
   simp only[binOp,Op.shift,hbs hb (fu h3),hn,if_false,Sem.run_pure,YA1,Qu hgt];congr 2;refine qB k ?_;simp
 .rcases hky with⟨hs,_⟩|⟨_,hk⟩;.cases hs
  have hbs:∀(hb:b<fJ ky)(hlt:b<9223372036854775808),toI ky b=b:=λhb hlt=>by
   refine toI_small _ _ ?_;unfold half fJ at*;split;.rename_i hs;rw[hk hs];omega
   .exact hb
  have hbits:k.bits<=64:=by cases k<;>decide
  have h':aH (WC a (half k)) (aH (Yd b k.bits) (av (WD a b) c) (aH (WC b 9223372036854775808) (c 0) (no _))) (no _)=1:=h;obtain⟨h0,h0'⟩:=aX h';have ha':=fu h0;have hn:¬((b:Int)<0):=by omega
  rcases bS h0' with⟨h1,h2⟩|⟨h1,h2⟩
  .have hle:=cH h1;rw[ay]at h2;have hsm:a>>>b<=a:=by rw[WE];exact YM1 _ _
   refine⟨_,h2,λha hb=>⟨Wy hsm ha,λw=>?_⟩⟩;simp only[binOp,Op.shift,hbs hb (by omega),hn,if_false,Sem.run_pure,YA1,Ws hle,toI_small k a ha'];congr 2;show(a:Int).fdiv (2^b)=toI k (a>>>b);rw[toI_small k _ (Wy hsm ha'),WE,YH4 _ (by exact_mod_cast Ya (2^b))];simp
  .obtain⟨h3,h4⟩:=aX h2;have hgt:k.bits<=b:=by
    rcases Yh k.bits b with hlt|hge;.omega
    .rw[WX hge]at h1;cases h1
   refine⟨0,h4,λha hb=>⟨hpos,λw=>?_⟩⟩;simp only[binOp,Op.shift,hbs hb (fu h3),hn,if_false,Sem.run_pure,YA1,Qu hgt,toI_small k a ha'];congr 2;show(a:Int).fdiv (2^k.bits)=toI k 0;rw[toI_small k 0 (by cases k<;>decide),YH4 _ (by exact_mod_cast Ya (2^k.bits))];have:(a:Int)<2^k.bits:=by exact_mod_cast(show a<2^k.bits from ha)
   rw[Int.ediv_eq_zero_of_lt (by omega) this];rfl
 .rcases hky with⟨_,rfl⟩|⟨hs,_⟩;.have h':av (YB4 a (YQ1 b (Nat.pred (2^ky.bits)))) c=1:=h;rw[ay]at h';refine⟨_,h',λha hb=>⟨Wy YS0 ha,λw=>?_⟩⟩;simp only[binOp,ne_eq,not_true_eq_false,if_false,Op.intBits,vv ky ha,vv ky hb,Sem.run_pure];congr 2;show ky.wrap _=toI ky (a&&&(b^^^(2^ky.bits-1)));rw[<-BitVec.xor_allOnes,BitVec.toNat_and,BitVec.toNat_xor,BitVec.toNat_allOnes,BitVec.toNat_ofNat,BitVec.toNat_ofNat,WH (show a<2^ky.bits from ha),WH (show b<2^ky.bits from hb)];rfl
  .cases hs
theorem ae0{t}{op}{k}{f}{a b}(hf:ab9 op k=some f)(ha:a<fJ k)(hb:b<fJ k):(binOp op t (.int k (toI k a)) (.int k (toI k b))).run P w=.ok (.bool (ej f a b)) w:=by
 have oa:=toI_off k a ha;have ob:=toI_off k b hb;have hinj:toI k a=toI k b↔a=b:=⟨toI_inj k ha hb,λe=>by rw[e]⟩;have hbeq:=by exact fL a b
 have hblt:∀m n,WC m n=decide (m<n):=λm n=>by
  by_cases h:m<n;.simp_all
  .rw[decide_eq_false h];cases hq:WC m n with|false=>rfl|true=>exact absurd (fu hq) h
 have hble:∀m n,Yd m n=decide (m<=n):=λm n=>by
  by_cases h:m<=n;.simp_all
  .rw[decide_eq_false h];cases hq:Yd m n with|false=>rfl|true=>exact absurd (cH hq) h
 cases op<;>simp only[ab9,Option.some.injEq,reduceCtorEq]at hf<;>subst hf<;>simp only[binOp,ne_eq,not_true_eq_false,if_false,Op.intCmp,Sem.run_pure];.congr 2;show(toI k a==toI k b)=YR a b;rw[hbeq];by_cases h:a=b<;>simp[h,hinj]
 .congr 2;show(toI k a !=toI k b)=Bool.rec true false (YR a b);rw[hbeq];by_cases h:a=b<;>simp[h,hinj]
 .congr 2;show decide (toI k a<toI k b)=WC ((a+eo k)%2^k.bits) ((b+eo k)%2^k.bits);rw[hblt,oa,ob];congr 1;exact propext ⟨λh=>by omega,λh=>by omega⟩
 .congr 2;show decide (toI k a<=toI k b)=Yd ((a+eo k)%2^k.bits) ((b+eo k)%2^k.bits);rw[hble,oa,ob];congr 1;exact propext ⟨λh=>by omega,λh=>by omega⟩
 .congr 2;show decide (toI k a>toI k b)=WC ((b+eo k)%2^k.bits) ((a+eo k)%2^k.bits);rw[hblt,oa,ob];congr 1;exact propext ⟨λh=>by omega,λh=>by omega⟩
 .congr 2;show decide (toI k a>=toI k b)=Yd ((b+eo k)%2^k.bits) ((a+eo k)%2^k.bits);rw[hble,oa,ob];congr 1;exact propext ⟨λh=>by omega,λh=>by omega⟩
theorem ado{l m n}(hm:m<256^l)(hn:n<256^l):((⟨(aF l m).toArray⟩:ByteArray).toList==(⟨(aF l n).toArray⟩:ByteArray).toList)=YR m n:=by
 have hbeq:=by exact fL m n
 rw[hbeq];by_cases h:m=n;.simp_all
 .rw[decide_eq_false h];simp only[beq_eq_false_iff_ne,ne_eq];intro e;rw[ByteArray.toList_eq,ByteArray.toList_eq]at e;exact h (sk hm hn (by omega))
end
end Go.Ev
end
section
set_option maxRecDepth 10000
namespace Go.Ev
open Go.RowKit
section
variable{P:Program}{nt:Nat}{o:Oper}{id:Nat}{ph:dz}{e:Env}{H:Heap}{k:K}
theorem adh{x}(hop:o.op=.nilCheck x)(h:aQ (ai P nt o) id ph e H k=1):Good P nt o e H k:=by
 simp only[ai,hop]at h;split at h
 .rename_i a ha;have h':aJ a e _=1:=h;rw[aq]at h';have key:k (aA a e) H=1/\aA a e≠.ny/\aA a e≠.rj/\aA a e≠.Hm:=by generalize aA a e=v at h';cases v<;>first|exact(aw h').elim|simp_all
  refine⟨_,_,fD.bN (by simp_all) λm w ac ho=>?_,key.1⟩;have h3:=ho x (by simp[Op.operands,hop]) a ha;refine⟨ac.eval x,?_,h3⟩;obtain⟨_,h4,h5,h6⟩:=key;generalize aA a e=v at h3 h4 h5 h6;cases v<;>simp only[VR]at h3<;>first|exact absurd rfl h4|exact absurd rfl h5|exact absurd rfl h6|(simp[execOp,hop,h3];done)|rfl|(obtain⟨c,h3,_⟩:=h3;simp[execOp,hop,h3])|(obtain⟨c,d,o,sp,h3,_⟩:=h3;simp[execOp,hop,h3])
 .exact(aw h).elim
theorem oY{op}{t}{x y}{k1 k2}{a b}{w}:(eqGuard op t x y (.int k1 a) (.int k2 b)).run P w=.ok () w:=by unfold eqGuard;simp
theorem oZ{op}{t}{x y}{a b}{w}:(eqGuard op t x y (.string a) (.string b)).run P w=.ok () w:=by unfold eqGuard;simp
theorem CW{kd ky}{f}{x y}(h:Ol kd ky f x y id ph e H k=1):∃a b,aA x e=.int kd a/\aA y e=.int ky b/\iE id f a b (λr=>k (.int kd r) H)=1:=by unfold Ol at h;rw[aq]at h;obtain⟨k1,a,ha,h1⟩:=dL h;rw[aq]at h1;obtain⟨k2,b,hb,h2⟩:=dL h1;obtain⟨h3,h4⟩:=aX h2;obtain⟨h5,h6⟩:=aX h4;simp_all
def nc:V->Option Nat|.bool true=>some 2|.bool false=>some 3|.ptr _ _=>some 11|.ny=>some 10|.slice _ _ _ _ _=>some 21|.aE=>some 20|.map _=>some 31|.wK=>some 30|.func _ _=>some 41|.rj=>some 40|.iface _ _=>some 51|.Hm=>some 50|_=>none
theorem Ho{x}{k}(h:gS id x k=1):∃c,nc x=some c/\k c=1:=by cases x<;>first|exact(aw h).elim|exact⟨_,rfl,h⟩|(rename_i b;cases b<;>exact⟨_,rfl,h⟩)
theorem XP{kc}{neg}{x y}(h:XO kc neg x y id ph e H k=1):∃a b,nc (aA x e)=some a/\nc (aA y e)=some b/\a/10=kc/\b/10=kc/\(a=b->a%10≠1)/\k (.bool (if neg then !decide (a=b)else decide (a=b))) H=1:=by
 unfold XO at h;rw[aq]at h;obtain⟨a,h1,h2⟩:=Ho h;rw[aq]at h2;obtain⟨b,h3,h4⟩:=Ho h2;obtain⟨h5,h6⟩:=aX h4;obtain⟨h7,h8⟩:=aX h6;refine⟨a,b,h1,h3,cU h5,cU h7,?_⟩;rcases bS h8 with⟨h9,h10⟩|⟨h9,h10⟩
 .have e:=cU h9;subst e;rcases bS h10 with⟨_,h11⟩|⟨h11,h12⟩;.exact(aw h11).elim
  .rw[fL]at h11;have h11':=of_decide_eq_false h11;refine⟨λ_=>h11',?_⟩;rcases bS h12 with⟨h13,h14⟩|⟨h13,h14⟩<;>subst h13<;>simpa using h14
 .rw[fL]at h9;simp_all
theorem Uz{x}{a}(h:nc x=some a)(hk:a/10=1):(x=.ny/\a=10)\/∃b o,x=.ptr b o/\a=11:=by cases x<;>simp only[nc,Option.some.injEq,reduceCtorEq]at h<;>(simp)<;>first|exact YF ⟨rfl,rfl⟩|exact YD ⟨_,_,rfl,rfl⟩|omega|(rename_i q;cases q<;>simp only[Option.some.injEq]at h<;>subst h<;>simp at hk)
theorem Hj{x}{a}(h:nc x=some a)(hk:a/10=2):(x=.aE/\a=20)\/∃b o l c s,x=.slice b o l c s/\a=21:=by cases x<;>simp only[nc,Option.some.injEq,reduceCtorEq]at h<;>(simp)<;>first|exact YF ⟨rfl,rfl⟩|exact YD ⟨_,_,_,_,_,rfl,rfl⟩|omega|(rename_i q;cases q<;>simp only[Option.some.injEq]at h<;>subst h<;>simp at hk)
theorem Uy{x}{a}(h:nc x=some a)(hk:a/10=3):(x=.wK/\a=30)\/∃b,x=.map b/\a=31:=by cases x<;>simp only[nc,Option.some.injEq,reduceCtorEq]at h<;>(simp)<;>first|exact YF ⟨rfl,rfl⟩|exact YD ⟨_,rfl,rfl⟩|omega|(rename_i q;cases q<;>simp only[Option.some.injEq]at h<;>subst h<;>simp at hk)
theorem Mx{x}{a}(h:nc x=some a)(hk:a/10=4):(x=.rj/\a=40)\/∃f l,x=.func f l/\a=41:=by cases x<;>simp only[nc,Option.some.injEq,reduceCtorEq]at h<;>(simp)<;>first|exact YF ⟨rfl,rfl⟩|exact YD ⟨_,_,rfl,rfl⟩|omega|(rename_i q;cases q<;>simp only[Option.some.injEq]at h<;>subst h<;>simp at hk)
theorem Hg{x}{a}(h:nc x=some a)(hk:a/10=5):(x=.Hm/\a=50)\/∃t v,x=.iface t v/\a=51:=by cases x<;>simp only[nc,Option.some.injEq,reduceCtorEq]at h<;>(simp)<;>first|exact YF ⟨rfl,rfl⟩|exact YD ⟨_,_,rfl,rfl⟩|omega|(rename_i q;cases q<;>simp only[Option.some.injEq]at h<;>subst h<;>simp at hk)
theorem Mw{x}{a}(h:nc x=some a)(hk:a/10=0):(x=.bool true/\a=2)\/(x=.bool false/\a=3):=by cases x<;>simp only[nc,Option.some.injEq,reduceCtorEq]at h<;>(simp)<;>first|omega|(rename_i q;cases q<;>simp only[Option.some.injEq]at h<;>subst h<;>first|rfl|simp)
def aan(P:Program)(kc:Nat)(t:TypeId):Prop:=(kc=0/\P.underlying t=some .bool)\/(kc=1/\∃d,P.underlying t=some (.pointer d))\/(kc=2/\∃d,P.underlying t=some (.slice d))\/(kc=3/\∃d d',P.underlying t=some (.map d d'))\/(kc=4/\∃d d' d'',P.underlying t=some (.func d d' d''))\/(kc=5/\∃d,P.underlying t=some (.interface d))
theorem XT{kc:Nat}{t:TypeId}{m:M}{x y:V}{cx cy:Value}{a b:Nat}{w:World}(hu:aan P kc t)(hx:VR m x cx)(hy:VR m y cy)(ha:nc x=some a)(hb:nc y=some b)(hka:a/10=kc)(hkb:b/10=kc)(hab:a=b->a%10≠1):(Op.equal t cx cy).run P w=.ok (decide (a=b)) w:=by
 show(Op.equalIn (9999+1) t cx cy).run P w=_;generalize 9999=dd;rcases hu with⟨rfl,hu⟩|⟨rfl,d,hu⟩|⟨rfl,d,hu⟩|⟨rfl,d,d',hu⟩|⟨rfl,d,d',d'',hu⟩|⟨rfl,d,hu⟩;.rcases Mw ha hka with⟨rfl,rfl⟩|⟨rfl,rfl⟩<;>rcases Mw hb hkb with⟨rfl,rfl⟩|⟨rfl,rfl⟩<;>simp only[VR]at hx hy<;>subst hx hy<;>(simp only[Op.equalIn,Sem.run_bind,run_underlying hu,Result.andThen_ok];rfl)
 .rcases Uz ha hka with⟨rfl,rfl⟩|⟨p,q,rfl,rfl⟩<;>rcases Uz hb hkb with⟨rfl,rfl⟩|⟨p',q',rfl,rfl⟩<;>simp only[VR]at hx hy<;>first|exact absurd rfl (hab rfl)|skip
  .subst hx hy;(simp only[Op.equalIn,Sem.run_bind,run_underlying hu,Result.andThen_ok];rfl)
  .obtain⟨c,rfl,_⟩:=hy;subst hx;(simp only[Op.equalIn,Sem.run_bind,run_underlying hu,Result.andThen_ok];rfl)
  .obtain⟨c,rfl,_⟩:=hx;subst hy;(simp only[Op.equalIn,Sem.run_bind,run_underlying hu,Result.andThen_ok];rfl)
 .rcases Hj ha hka with⟨rfl,rfl⟩|⟨p,q,r,s,s1,rfl,rfl⟩<;>rcases Hj hb hkb with⟨rfl,rfl⟩|⟨p',q',r',s',s2,rfl,rfl⟩<;>simp only[VR]at hx hy<;>first|exact absurd rfl (hab rfl)|skip
  .subst hx hy;(simp only[Op.equalIn,Sem.run_bind,run_underlying hu,Result.andThen_ok];rfl)
  .obtain⟨c,cap,o',sp,rfl,_⟩:=hy;subst hx;(simp only[Op.equalIn,Sem.run_bind,run_underlying hu,Result.andThen_ok];rfl)
  .obtain⟨c,cap,o',sp,rfl,_⟩:=hx;subst hy;(simp only[Op.equalIn,Sem.run_bind,run_underlying hu,Result.andThen_ok];rfl)
 .rcases Uy ha hka with⟨rfl,rfl⟩|⟨p,rfl,rfl⟩<;>rcases Uy hb hkb with⟨rfl,rfl⟩|⟨p',rfl,rfl⟩<;>simp only[VR]at hx hy<;>first|exact absurd rfl (hab rfl)|skip
  .subst hx hy;(simp only[Op.equalIn,Sem.run_bind,run_underlying hu,Result.andThen_ok];rfl)
  .obtain⟨c,rfl,_⟩:=hy;subst hx;(simp only[Op.equalIn,Sem.run_bind,run_underlying hu,Result.andThen_ok];rfl)
  .obtain⟨c,rfl,_⟩:=hx;subst hy;(simp only[Op.equalIn,Sem.run_bind,run_underlying hu,Result.andThen_ok];rfl)
 .rcases Mx ha hka with⟨rfl,rfl⟩|⟨p,q,rfl,rfl⟩<;>rcases Mx hb hkb with⟨rfl,rfl⟩|⟨p',q',rfl,rfl⟩<;>simp only[VR]at hx hy<;>first|exact absurd rfl (hab rfl)|skip
  .subst hx hy;(simp only[Op.equalIn,Sem.run_bind,run_underlying hu,Result.andThen_ok];rfl)
  .obtain⟨c,rfl,_⟩:=hy;subst hx;(simp only[Op.equalIn,Sem.run_bind,run_underlying hu,Result.andThen_ok];rfl)
  .obtain⟨c,rfl,_⟩:=hx;subst hy;(simp only[Op.equalIn,Sem.run_bind,run_underlying hu,Result.andThen_ok];rfl)
 .rcases Hg ha hka with⟨rfl,rfl⟩|⟨p,q,rfl,rfl⟩<;>rcases Hg hb hkb with⟨rfl,rfl⟩|⟨p',q',rfl,rfl⟩<;>simp only[VR]at hx hy<;>first|exact absurd rfl (hab rfl)|skip
  .subst hx hy;(simp only[Op.equalIn,Sem.run_bind,run_underlying hu,Result.andThen_ok];rfl)
  .obtain⟨c,rfl,_⟩:=hy;subst hx;(simp only[Op.equalIn,Sem.run_bind,run_underlying hu,Result.andThen_ok];rfl)
  .obtain⟨c,rfl,_⟩:=hx;subst hy;(simp only[Op.equalIn,Sem.run_bind,run_underlying hu,Result.andThen_ok];rfl)
theorem UA{m}{x}{cx}{a}(hx:VR m x cx)(ha:nc x=some a):(∀l,cx≠.agg l)/\(cx=.nilIface->a/10=5):=by cases x<;>simp only[VR]at hx<;>first|(simp only[nc,reduceCtorEq]at ha;done)|(subst hx;refine⟨λ_=>nofun,λe=>?_⟩;first|rfl|(simp only[nc,Option.some.injEq]at ha;omega))|rfl|(obtain⟨_,hx,_⟩:=hx;subst hx;simp)|(obtain⟨_,_,_,_,hx,_⟩:=hx;simp_all)
theorem wM{op}{kc}{t}{m}{ox oy}{x y}{cx cy}{a b}{w}(hx:VR m x cx)(hy:VR m y cy)(ha:nc x=some a)(hb:nc y=some b)(hka:a/10=kc)(hkb:b/10=kc)(hc:kc=5->(∃v,ox=.const v)\/∃v,oy=.const v):(eqGuard op t ox oy cx cy).run P w=.ok () w:=by
 obtain⟨h1,h2⟩:=UA hx ha;unfold eqGuard;cases op<;>try rfl
 all_goals
  cases cx<;>try rfl
  case agg l=>simp_all
  case nilIface=>
   cases cy<;>try rfl
   rcases hc (hka.symm.trans (h2 rfl))with⟨v,rfl⟩|⟨v,rfl⟩;.rfl
   simp
theorem BK{x}{ar}{nt}{e}(h:aN nt x=some ar)(hi:isC ar=true){a}(hn:nc (aA ar e)=some a)(hk:a/10=5):∃v,x=.const v:=by
 unfold aN at h;split at h;.split at h<;>cases h;cases hi
 .simp
 .cases h;simp[aA,nc]at hn;omega
 simp_all
theorem nh{kc:Nat}{op:BinOp}{xt yt:TypeId}{x y:Operand}{x' y':Arg}(hop:o.op=.binOp op xt x y yt)(hx:aN nt x=some x')(hy:aN nt y=some y')(hu:aan P kc xt)(hc:kc=5->isC x'=true\/isC y'=true)(h:aQ (oK kc op x' y') id ph e H k=1):Good P nt o e H k:=by
 have mem:x∈o.op.operands/\y∈o.op.operands:=by simp[hop,Op.operands]
 have hnd:∀c,o.op≠.defer c:=by simp[hop]
 have key:∀neg:Bool,(op=if neg then .neq else .eql)->XO kc neg x' y' id ph e H k=1->Good P nt o e H k:=by
  intro neg hneg h';obtain⟨a,b,h1,h2,h3,h4,h5,h6⟩:=XP h';refine⟨_,_,fD.bN hnd λm w ac ho=>?_,h6⟩;have vx:=ho x mem.1 x' hx;have vy:=ho y mem.2 y' hy;have hc':kc=5->(∃v,x=.const v)\/∃v,y=.const v:=λe5=>(hc e5).imp (λhi=>BK hx hi h1 (h3.trans e5)) (λhi=>BK hy hi h2 (h4.trans e5));have hr:=XT (w:=w) hu vx vy h1 h2 h3 h4 h5;have hg:=wM (P:=P) (op:=op) (t:=xt) (w:=w) vx vy h1 h2 h3 h4 hc';refine⟨.bool (if neg then !decide (a=b)else decide (a=b)),?_,by simp only[VR]⟩;simp only[execOp,hop,Sem.run_bind,hg,Result.andThen_ok];have hb:(binOp op xt (ac.eval x) (ac.eval y)).run P w=.ok (.bool (if neg then !decide (a=b)else decide (a=b))) w:=by
   have hb':binOp op xt (ac.eval x) (ac.eval y)=if neg then(do pure (.bool (!(<-Op.equal xt (ac.eval x) (ac.eval y)))))else(do pure (.bool (<-Op.equal xt (ac.eval x) (ac.eval y)))):=by subst hneg;generalize ac.eval x=cx at vx;generalize ac.eval y=cy at vy;cases hq:aA x' e<;>rw[hq]at h1 vx<;>simp only[nc,Option.some.injEq,reduceCtorEq]at h1<;>simp only[VR]at vx<;>first|(subst vx;cases neg<;>cases cy<;>rfl)|(obtain⟨c1,vx,_⟩:=vx;subst vx;cases neg<;>cases cy<;>rfl)|(obtain⟨c1,c2,c3,c4,vx,_⟩:=vx;subst vx;cases neg<;>cases cy<;>rfl)
   rw[hb'];cases neg<;>simp[hr]
  rw[hb];rfl
 unfold oK at h;split at h;.exact key false (by simp) h
 .exact key true (by simp) h
 .exact(aw h).elim
theorem adj{op}{xt}{x}(hop:o.op=.unOp op xt x)(h:aQ (ai P nt o) id ph e H k=1):Good P nt o e H k:=by
 simp only[ai,hop]at h;have mem:x∈o.op.operands:=by simp[hop,Op.operands]
 have hnd:∀c,o.op≠.defer c:=by simp_all
 split at h
 .rename_i x' hx;have h':TF x' id ph e H k=1:=h;unfold TF at h';rw[aq]at h';obtain⟨b,hb,h1⟩:=nH h';have h2:k (.bool (!b)) H=1:=by rcases bS h1 with⟨h2,h3⟩|⟨h2,h3⟩<;>subst h2<;>exact h3
  refine⟨_,_,fD.bN hnd λm w ac ho=>?_,h2⟩;have v:=ho x mem x' hx;rw[hb]at v;simp only[VR]at v;exact⟨.bool (!b),by simp[execOp,hop,v,Op.unary],by rfl⟩
 .rename_i x' hx;split at h;.rename_i kx hk;have h':Ol (mq kx) (mq kx) (.sub (2^kx.bits)) (.c (.int (mq kx) 0)) x' id ph e H k=1:=h;obtain⟨a,b,ha,hb,h1⟩:=CW h';simp only[aA,V.int.injEq,true_and]at ha;subst ha;obtain⟨r,h2,h3⟩:=RP (P:=P) (t:=xt) (op:=.sub) rfl (YF ⟨rfl,rfl⟩) h1;refine⟨_,_,fD.bN hnd λm w ac ho=>?_,h2⟩;have v:=ho x mem x' hx;rw[hb]at v;simp only[VR,dQ]at v;obtain⟨h4,h5⟩:=h3 (yF kx) v.2.1;have h6:=h5 w;rw[toI_small kx 0 (by cases kx<;>decide)]at h6;simp only[binOp,ne_eq,not_true_eq_false,if_false]at h6;exact⟨.int kx (toI kx r),by simp only[execOp,hop,v.1,Op.unary,Sem.run_bind];simp_all,by simp only[VR,dQ];simp_all⟩
  .exact(aw h).elim
 .rename_i x' hx;split at h
  .rename_i kx hk;have h':Ol (mq kx) (mq kx) .abZ (.c (.int (mq kx) (2^kx.bits-1))) x' id ph e H k=1:=h;obtain⟨a,b,ha,hb,h1⟩:=CW h';simp only[aA,V.int.injEq,true_and]at ha;subst ha;obtain⟨r,h2,h3⟩:=RP (P:=P) (t:=xt) (op:=.xor) rfl (YF ⟨rfl,rfl⟩) h1;refine⟨_,_,fD.bN hnd λm w ac ho=>?_,h2⟩;have v:=ho x mem x' hx;rw[hb]at v;simp only[VR,dQ]at v;obtain⟨h4,h5⟩:=h3 (by cases kx<;>decide) v.2.1;have h6:=h5 w;have h7:toI kx (2^kx.bits-1)=if kx.signed then-1 else kx.max:=by cases kx<;>decide
   simp only[binOp,ne_eq,not_true_eq_false,if_false]at h6;exact⟨.int kx (toI kx r),by simp only[execOp,hop,v.1,Op.unary,Sem.run_bind];simp_all,by simp only[VR,dQ];simp_all⟩
  .exact(aw h).elim
 .exact(aw h).elim
theorem wN{t}{x}(hop:o.op=.makeInterface t x)(h:aQ (ai P nt o) id ph e H k=1):Good P nt o e H k:=by
 simp only[ai,hop]at h;have mem:x∈o.op.operands:=by simp[hop,Op.operands]
 have hnd:∀c,o.op≠.defer c:=by simp_all
 split at h;.exact(aw h).elim
 .rename_i x' d hni hx hu;have h':aci t x' id ph e H k=1:=h;unfold aci at h';rw[aq]at h';refine⟨_,_,fD.bN hnd λm w ac ho=>?_,h'⟩;have v:=ho x mem x' hx;refine⟨.iface t (ac.eval x),?_,by simp only[VR];simp_all⟩;simp only[execOp,hop,Instr.makeInterface,Sem.run_bind,run_underlying hu,Result.andThen_ok];rfl
 .exact(aw h).elim
theorem DW{x}{xt t}{ok}(hop:o.op=.typeAssert x xt t ok)(h:aQ (ai P nt o) id ph e H k=1):Good P nt o e H k:=by
 simp only[ai,hop]at h;have mem:x∈o.op.operands:=by simp[hop,Op.operands]
 have hnd:∀c,o.op≠.defer c:=by simp_all
 split at h;.exact(aw h).elim
 .rename_i x' d hni hx hu;have h':acp t x' id ph e H k=1:=h;unfold acp at h';rw[aq]at h';obtain⟨u,hv,h2⟩:=adw h';refine⟨_,_,fD.bN hnd λm w ac ho=>?_,h2⟩;have v:=ho x mem x' hx;rw[hv]at v;obtain⟨cu,hc,hcu⟩:=v;refine⟨.tuple #[cu,.bool true],?_,by exact⟨_,rfl,by exact⟨_,_,rfl,hcu,_,_,rfl,by rfl,rfl⟩⟩⟩;simp only[execOp,hop,hc,Instr.typeAssert,Sem.run_bind,run_underlying hu,Result.andThen_ok];rfl
 .exact(aw h).elim
theorem jI{m}{ac:Act}:∀{l}{r},cm nt l=some r->(∀x∈l,∀ar,aN nt x=some ar->VR m (aA ar e) (ac.eval x))->cA m (r.map (aA · e)) (l.map ac.eval)
 |[],r,h,_=>by simp only[cm,Option.some.injEq]at h;subst h;rfl|x::l,r,h,ho=>by
  simp only[cm]at h;split at h;.rename_i a r' h1 h2;cases h;exact⟨_,_,rfl,ho x (YM ..) a h1,jI h2 λy hy=>ho y (YI _ hy)⟩
  simp_all
theorem KQ{f}{first caps}(hop:o.op=.makeFunc (.func f) first caps)(h:aQ (ai P nt o) id ph e H k=1):Good P nt o e H k:=by
 simp only[ai,hop]at h;have hnd:∀c,o.op≠.defer c:=by simp_all
 split at h
 .rename_i l hf hl;have h':TJ (2*f) l id ph e H k=1:=h;unfold TJ at h';rw[iF]at h';refine⟨_,_,fD.bN hnd λm w ac ho=>?_,h'⟩;have hf':first=#[]:=by simp_all
  subst hf';refine⟨.func (.func f) #[] (caps.map ac.eval),by simp[execOp,hop,Instr.makeFunc],?_⟩;simp only[VR];have:=jI hl λx hx=>ho x (by simp[hop,Op.operands];simp_all);simp_all
 .rename_i q qs hf hc;split at h
  .rename_i l hl;have h':TJ (2*f+1) l id ph e H k=1:=h;unfold TJ at h';rw[iF]at h';refine⟨_,_,fD.bN hnd λm w ac ho=>?_,h'⟩;have hcl:caps.toList=[]:=by cases hct:caps.toList with|nil=>rfl|cons y ys=>rw[hct]at hc;simp only[cm]at hc;split at hc<;>cases hc
   have hc':caps=#[]:=by simp_all
   subst hc';refine⟨.func (.func f) (first.map ac.eval) #[],by simp[execOp,hop,Instr.makeFunc],?_⟩;refine⟨first.map ac.eval,by simp[Nat.mul_add_div],?_⟩;rw[<-hf]at hl;have:=jI hl λx hx=>ho x (by simp[hop,Op.operands];simpa using hx);simp_all
  .exact(aw h).elim
 .exact(aw h).elim
theorem PE{x}{i}(hop:o.op=.extract x i)(h:aQ (ai P nt o) id ph e H k=1):Good P nt o e H k:=by
 simp only[ai,hop]at h;have mem:x∈o.op.operands:=by simp[hop,Op.operands]
 have hnd:∀c,o.op≠.defer c:=by simp_all
 split at h
 .rename_i x' hx;have h':Tw x' i id ph e H k=1:=h;unfold Tw at h';rw[aq]at h';obtain⟨l,hl,h1⟩:=aah h';obtain⟨v,hv,h2⟩:=uM h1;refine⟨_,_,fD.bN hnd λm w ac ho=>?_,h2⟩;have vx:=ho x mem x' hx;rw[hl]at vx;obtain⟨cs,hcs,hr⟩:=vx;obtain⟨c,hc,hvr⟩:=hr.get hv;refine⟨c,?_,hvr⟩;have hc':cs[i]?=some c:=by simp_all
  simp[execOp,hop,hcs,Instr.extract,hc']
 .exact(aw h).elim
theorem HZ{t}{x}{f}(hop:o.op=.fieldAddr t x f)(h:aQ (ai P nt o) id ph e H k=1):Good P nt o e H k:=by
 simp only[ai,hop]at h;have mem:x∈o.op.operands:=by simp[hop,Op.operands]
 have hnd:∀c,o.op≠.defer c:=by simp_all
 split at h
 .rename_i x' fs hx hu;split at h
  .rename_i fd hfd;split at h
   .rename_i n hsz;have h':Ty fd.offset x' id ph e H k=1:=h;unfold Ty at h';rw[aq]at h';obtain⟨b,off,hb,h1⟩:=gu h';rw[ay]at h1;refine⟨_,_,fD.bN hnd λm w ac ho=>?_,h1⟩;have vx:=ho x mem x' hx;rw[hb]at vx;obtain⟨c,hc,hm⟩:=vx;refine⟨.pointer (some ⟨c,off+fd.offset,none⟩),?_,by simp only[VR];simp_all⟩;simp only[rq,Yj]at hsz;obtain⟨ti,hti,hsz⟩:=hsz;have hs:(sizeOf fd.type).run P w=.ok (n+1) w:=by simp[sizeOf,typeInfo,hti,hsz]
    simp[execOp,hop,hc,Instr.fieldAt,run_underlying hu,hfd,Instr.sureAddr,fieldPlace,hs,Addr.add_lit]
   .exact(aw h).elim
  .exact(aw h).elim
 .exact(aw h).elim
theorem gU{t}{cs}{off}{l}{m}(hr:cA m l cs.toList){w}:(∀n,mh P t=some true->rq P t=some n->off+n<=l.length->∃q:Array Value,(part t cs off).run P w=.ok (.agg q) w/\cA m ((l.drop off).take n) q.toList)/\(∀v,mh P t=some false->l[off]?=some v->∃c,(part t cs off).run P w=.ok c w/\VR m v c):=by
 have hlen:=hr.length;constructor
 .intro n ha hs hle;have hag:(isAgg t).run P w=.ok true w:=by unfold mh at ha;split at ha<;>simp at ha;all_goals(rename_i hu;simp[isAgg,run_underlying hu])
  simp only[rq,Yj]at hs;obtain⟨ti,hti,hsz⟩:=hs;have hsz':(sizeOf t).run P w=.ok n w:=by simp[sizeOf,typeInfo,hti,hsz]
  refine⟨cs.extract off (off+n),by simp[part,hag,hsz'],?_⟩;refine cA.qh ?_ λi v c h1 h2=>?_;.simp_all
  .rw[Yy]at h1;split at h1;.rw[WB]at h1;obtain⟨c',h3,h4⟩:=hr.get h1;simp_all
   simp_all
 .intro v ha hv;have hag:(isAgg t).run P w=.ok false w:=by unfold mh at ha;split at ha<;>simp at ha;rename_i d h1 h2 hu;simp only[isAgg,Sem.run_bind,run_underlying hu,Result.andThen_ok];rfl
  obtain⟨c,h3,h4⟩:=hr.get hv;rw[Ys]at h3;exact⟨c,by simp[part,hag,h3],h4⟩
theorem ZX{t}{x}{f}(hop:o.op=.field t x f)(h:aQ (ai P nt o) id ph e H k=1):Good P nt o e H k:=by
 simp only[ai,hop]at h;have mem:x∈o.op.operands:=by simp[hop,Op.operands]
 have hnd:∀c,o.op≠.defer c:=by simp_all
 split at h
 .rename_i x' fs hx hu;split at h
  .rename_i fd hfd;split at h;.rename_i n hag hsz;have h':TA fd.offset n x' id ph e H k=1:=h;unfold TA at h';rw[aq]at h';obtain⟨l,hl,h1⟩:=qX h';obtain⟨h2,h3⟩:=mZ h1;obtain⟨h4,h5⟩:=lK h3;refine⟨_,_,fD.bN hnd λm w ac ho=>?_,h5⟩;have vx:=ho x mem x' hx;rw[hl]at vx;obtain⟨cs,hc,hr⟩:=vx;obtain⟨q,hq,hqr⟩:=(gU (off:=fd.offset) hr (w:=w)).1 n hag hsz (by simp at h4;omega);exact⟨.agg q,by simp[execOp,hop,hc,Instr.field,run_underlying hu,hfd,asAgg,hq],by simp only[VR];simp_all⟩
   .rename_i n hag hsz;have h':Tz fd.offset x' id ph e H k=1:=h;unfold Tz at h';rw[aq]at h';obtain⟨l,hl,h1⟩:=qX h';obtain⟨v,h2,h3⟩:=uM h1;refine⟨_,_,fD.bN hnd λm w ac ho=>?_,h3⟩;have vx:=ho x mem x' hx;rw[hl]at vx;obtain⟨cs,hc,hr⟩:=vx;obtain⟨q,hq,hqr⟩:=(gU hr (w:=w)).2 v hag h2;exact⟨q,by simp[execOp,hop,hc,Instr.field,run_underlying hu,hfd,asAgg,hq],hqr⟩
   .exact(aw h).elim
  .exact(aw h).elim
 .exact(aw h).elim
theorem Di{i'}{len}{c}(h:idx id i' e len c=1):∃n,c n=1/\n<len/\∀(m)(cv),VR m (aA i' e) cv->∃kd,cv=.int kd n:=by unfold idx at h;rw[aq]at h;obtain⟨kd,n,hn,h1⟩:=dL h;obtain⟨h2,h3⟩:=aX h1;obtain⟨h4,h5⟩:=aX h3;obtain⟨h6,h7⟩:=aX h5;refine⟨n,h7,fu h4,λm cv hv=>?_⟩;rw[hn]at hv;exact⟨pZ kd,by rw[hv.1,toI_64 (cH h2) hv.2.2 (fu h6) hv.2.1]⟩
theorem cY{t}{n}(h:rq P t=some n)(w):(sizeOf t).run P w=.ok n w:=by simp only[rq,Yj]at h;obtain⟨ti,hti,hsz⟩:=h;simp[sizeOf,typeInfo,hti,hsz]
theorem Ia{t:TypeId}{x i:Operand}(hop:o.op=.indexAddr t x i)(h:aQ (ai P nt o) id ph e H k=1):Good P nt o e H k:=by
 simp only[ai,hop]at h;have mem:x∈o.op.operands/\i∈o.op.operands:=by simp[hop,Op.operands]
 have hnd:∀c,o.op≠.defer c:=by simp[hop]
 split at h
 .rename_i x' i' len el hx hi hu;split at h
  .rename_i s hs;have h':ace len s x' i' id ph e H k=1:=h;unfold ace at h';rw[aq]at h';obtain⟨b,off,hb,h1⟩:=gu h';obtain⟨n,h2,h3,h4⟩:=Di h1;rw[ay]at h2;refine⟨_,_,fD.bN hnd λm w ac ho=>?_,h2⟩;have vx:=ho x mem.1 x' hx;obtain⟨kd,hki⟩:=h4 m _ (ho i mem.2 i' hi);rw[hb]at vx;simp only[VR]at vx;obtain⟨c,hc,hm⟩:=vx;refine⟨.pointer (some ⟨c,off+n*s,none⟩),?_,by simp only[VR];exact⟨c,rfl,hm⟩⟩;have hlt:(0:Int)<=(n:Int)/\(n:Int)<(len:Int):=by omega
   simp[execOp,hop,hc,hki,Instr.indexAt,asIntOf,run_underlying hu,Instr.sureAddr,cY hs,h3,Addr.add_lit]
  .exact(aw h).elim
 .rename_i x' i' el hx hi hu;split at h
  .rename_i s hs;have h':ach s x' i' id ph e H k=1:=h;unfold ach at h';rw[aq]at h';obtain⟨b,off,len,cp,sz,hb,h1⟩:=Q6 h';obtain⟨n,h2,h3,h4⟩:=Di h1;rw[ay]at h2;refine⟨_,_,fD.bN hnd λm w ac ho=>?_,h2⟩;have vx:=ho x mem.1 x' hx;obtain⟨kd,hki⟩:=h4 m _ (ho i mem.2 i' hi);rw[hb]at vx;simp only[VR]at vx;obtain⟨c,cap,o',sp,hc,hm,hle,hcp,ho'⟩:=vx;obtain⟨rfl,rfl⟩:o'=off/\sp=none:=by
    rcases ho' with h|h;.exact h
    .omega
   refine⟨.pointer (some ⟨c,o'+n*s,none⟩),?_,by simp only[VR];exact⟨c,rfl,hm⟩⟩;simp[execOp,hop,hc,hki,Instr.indexAt,asIntOf,run_underlying hu,cY hs,h3,Addr.add_lit]
  .exact(aw h).elim
 .exact(aw h).elim
theorem ZY{t:TypeId}{x i:Operand}(hop:o.op=.index t x i)(h:aQ (ai P nt o) id ph e H k=1):Good P nt o e H k:=by
 simp only[ai,hop]at h;have mem:x∈o.op.operands/\i∈o.op.operands:=by simp[hop,Op.operands]
 have hnd:∀c,o.op≠.defer c:=by simp[hop]
 split at h
 .rename_i x' i' hx hi hu;have h':acg x' i' id ph e H k=1:=h;unfold acg at h';rw[aq]at h';obtain⟨len,mm,hb,h1⟩:=eJ h';obtain⟨n,h2,h3,h4⟩:=Di h1;rw[ay]at h2;refine⟨_,_,fD.bN hnd λm w ac ho=>?_,h2⟩;have vx:=ho x mem.1 x' hx;obtain⟨kd,hki⟩:=h4 m _ (ho i mem.2 i' hi);rw[hb]at vx;simp only[VR]at vx;have hg:=sj len mm n h3;have e1:YB4 (WD mm (Yn 8 n)) 255=(UInt8.ofNat (mm/256^n%256)).toNat:=by show(mm>>>(8*n))&&&255=_;rw[WE,QY,show(255:Nat)=2^8-1by rfl,QW,toNat_byte]
  rw[e1];refine⟨.int .u8 (UInt8.ofNat (mm/256^n%256)).toNat,?_,wS m _⟩;have hlen:(aF len mm).length=len:=aL len mm;have hbg:(⟨(aF len mm).toArray⟩:ByteArray)[n]?=some (UInt8.ofNat (mm/256^n%256)):=by
   have hlt:n<(⟨(aF len mm).toArray⟩:ByteArray).size:=by simp[ByteArray.size,hlen,h3]
   rw[getElem?_pos (⟨(aF len mm).toArray⟩:ByteArray) n hlt];congr 1;have:(aF len mm)[n]'(by omega)=UInt8.ofNat (mm/256^n%256):=by rw[YA (by omega)]at hg;exact Option.some.inj hg
   rw[<-this];rfl
  simp[execOp,hop,vx.1,hki,Instr.index,asIntOf,run_underlying hu,hbg]
 .rename_i x' i' len el hx hi hu;split at h
  .rename_i s ag hs hag;have h':acf len s ag x' i' id ph e H k=1:=h;unfold acf at h';rw[aq]at h';obtain⟨l,hb,h1⟩:=qX h';obtain⟨n,h2,h3,h4⟩:=Di h1;rcases bS h2 with⟨h5,h6⟩|⟨h5,h6⟩;.subst h5;obtain⟨h7,h8⟩:=mZ h6;obtain⟨h9,h10⟩:=lK h8;refine⟨_,_,fD.bN hnd λm w ac ho=>?_,h10⟩;have vx:=ho x mem.1 x' hx;obtain⟨kd,hki⟩:=h4 m _ (ho i mem.2 i' hi);rw[hb]at vx;simp only[VR]at vx;obtain⟨cs,hc,hr⟩:=vx;have h7':n*s<=l.length:=h7;obtain⟨q,hq,hqr⟩:=(gU (P:=P) (t:=el) (off:=n*s) hr (w:=w)).1 s hag hs (by have:s<=(l.drop (n*s)).length:=h9;simp at this;omega);exact⟨.agg q,by simp[execOp,hop,hc,hki,Instr.index,asIntOf,run_underlying hu,cY hs,h3,hq],by simp only[VR];exact⟨q,rfl,hqr⟩⟩
   .subst h5;obtain⟨v,h7,h8⟩:=uM h6;refine⟨_,_,fD.bN hnd λm w ac ho=>?_,h8⟩;have vx:=ho x mem.1 x' hx;obtain⟨kd,hki⟩:=h4 m _ (ho i mem.2 i' hi);rw[hb]at vx;simp only[VR]at vx;obtain⟨cs,hc,hr⟩:=vx;obtain⟨q,hq,hqr⟩:=(gU (P:=P) (t:=el) (off:=n*s) hr (w:=w)).2 v hag h7;exact⟨q,by simp[execOp,hop,hc,hki,Instr.index,asIntOf,run_underlying hu,cY hs,h3,hq],hqr⟩
  .exact(aw h).elim
 .exact(aw h).elim
def ad2(P:Program)(c:Nat)(a b:V)(r:Bool):Prop:=∀(m:M)(cx cy:Value),VR m a cx->VR m b cy->∀(dd:Nat)(t:TypeId)(w:World),(c=0->P.underlying t=some .bool)->(c=1->∃q,P.underlying t=some (.int q))->(2<=c->P.underlying t=some .string)->(Op.equalIn (dd+1) t cx cy).run P w=.ok r w
theorem OT{c}{x y}{k}(h:Ka id c x y k=1):∃r,k r=1/\ad2 P c x y r:=by match c,h with
 |0,h=>have h':fm id x (λa=>fm id y λb=>aH a (k b) (aH b (k false) (k true)))=1:=h;obtain⟨a,rfl,h1⟩:=nH h';obtain⟨b,rfl,h2⟩:=nH h1;refine⟨a==b,by cases a<;>cases b<;>exact h2,λm cx cy vx vy dd t w h0 _ _=>?_⟩;subst vx vy;exact run_equalIn_bool' w dd t a b (h0 rfl)|1,h=>
  have h':cI id x (λk1 a=>cI id y λk2 b=>aH (YR k1 k2) (k (YR a b)) (no _))=1:=h;obtain⟨k1,a,rfl,h1⟩:=dL h';obtain⟨k2,b,rfl,h2⟩:=dL h1;obtain⟨h3,h4⟩:=aX h2;have:=cU h3;subst this;refine⟨_,h4,λm cx cy vx vy dd t w _ h1 _=>?_⟩;obtain⟨q,hq⟩:=h1 rfl;rw[vx.1,vy.1,run_equalIn_int w dd t _ q _ _ hq,fL];by_cases hab:a=b;.simp_all
  .have:=λe=>hab (toI_inj _ vx.2.1 vy.2.1 e);simp_all|c+2,h=>
  have h':er id x (λl1 a=>er id y λl2 b=>aH (YR l1 l2) (k (YR a b)) (k false))=1:=h;obtain⟨l1,a,rfl,h1⟩:=eJ h';obtain⟨l2,b,rfl,h2⟩:=eJ h1;have hf:k (decide (l1=l2)&&decide (a=b))=1:=by
   rcases bS h2 with⟨h3,h4⟩|⟨h3,h4⟩;.rw[fL]at h3 h4;simp_all
   .rw[fL]at h3;simp_all
  refine⟨_,hf,λm cx cy vx vy dd t w _ _ h2=>?_⟩;rw[vx.1,vy.1,run_equalIn_string w dd t _ _ (h2 (by omega))];congr 1;rw[ByteArray.toList_eq,ByteArray.toList_eq];by_cases hl:l1=l2
  .subst hl;by_cases hab:a=b;.simp_all
   .simp only[hab,decide_false,Bool.and_false,beq_eq_false_iff_ne,ne_eq];intro e;exact hab (sk vx.2 vy.2 (by omega))
  .simp only[hl,decide_false,Qt,beq_eq_false_iff_ne,ne_eq];intro e;have:=congrArg Wl e;simp[aL]at this;omega
def MS(P:Program):List Nat->List V->List V->Bool->Prop|[],_,_,b=>b=true|c::cls,l,m,b=>∃a l' a' m' r,l=a::l'/\m=a'::m'/\ad2 P c a a' r/\(r=true->MS P cls l' m' b)/\(r=false->b=false)
theorem Mg:∀{cls}{l m}{k},hU id cls l m k=1->∃b,k b=1/\MS P cls l m b|[],l,m,k,h=>⟨true,h,rfl⟩|c::cls,[],m,k,h=>(aw h).elim|c::cls,a::l,[],k,h=>(aw h).elim|c::cls,a::l,a'::m,k,h=>by have h':=h;obtain⟨r,h1,h2⟩:=OT h';cases r with|true=>obtain⟨b,h3,h4⟩:=Mg (show hU id cls l m k=1from h1);exact⟨b,h3,a,l,a',m,true,rfl,rfl,h2,λ_=>h4,λh=>(by cases h)⟩|false=>exact⟨false,h1,a,l,a',m,false,rfl,rfl,h2,λh=>(by cases h),λ_=>rfl⟩
theorem MS.split:∀{c r:List Nat}{l m:List V}{b:Bool},MS P (c++r) l m b->∃b1,MS P c (l.take c.length) (m.take c.length) b1/\(b1=true->MS P r (l.drop c.length) (m.drop c.length) b)/\(b1=false->b=false)|[],r,l,m,b,h=>⟨true,rfl,λ_=>by simpa using h,λh=>(by cases h)⟩|c::cs,r,l,m,b,h=>by obtain⟨a,l',a',m',q,rfl,rfl,h1,h2,h3⟩:=h;cases q with|true=>obtain⟨b1,h4,h5,h6⟩:=MS.split (h2 rfl);exact⟨b1,⟨a,_,a',_,true,rfl,rfl,h1,λ_=>h4,λh=>(by cases h)⟩,λe=>by simpa using h5 e,h6⟩|false=>exact⟨false,⟨a,_,a',_,false,rfl,rfl,h1,λh=>(by cases h),λ_=>rfl⟩,λh=>(by cases h),λ_=>h3 rfl⟩
theorem uk{t}{d}{c}(h:wF P (d+1) t=some c):(mh P t=some false/\∃q,c=[q]/\(q=0->P.underlying t=some .bool)/\(q=1->∃kd,P.underlying t=some (.int kd))/\(2<=q->P.underlying t=some .string))\/(mh P t=some true/\P.underlying t=some (.struct (P.fieldsOf t))/\P.stoodInHeld t=false/\vE P (wF P d) (P.fieldsOf t).toList 0=some c):=by
 simp only[wF]at h;split at h;.rename_i hu;cases h;exact YF ⟨by simp[mh,hu],0,rfl,λ_=>hu,λh=>(by omega),λh=>(by omega)⟩
 .rename_i q hu;cases h;exact YF ⟨by simp[mh,hu],1,rfl,λh=>(by omega),λ_=>⟨q,hu⟩,λh=>(by omega)⟩
 .rename_i hu;cases h;exact YF ⟨by simp[mh,hu],2,rfl,λh=>(by omega),λh=>(by omega),λ_=>hu⟩
 .rename_i fs hu;split at h;.cases h
  .have hf:P.fieldsOf t=fs:=by simp[Program.fieldsOf,hu]
   exact YD ⟨by simp[mh,hu],by simp_all,by simp_all,by simp_all⟩
 simp_all
theorem uB{m:M}{w:World}:∀(d:Nat)(t:TypeId)(c:List Nat),wF P d t=some c->∀(dd:Nat),d<=dd->∀(cx cy:Value)(l l':List V)(b:Bool),MS P c l l' b->l.length=c.length->l'.length=c.length->((mh P t=some false->∃v v':V,l=[v]/\l'=[v']/\VR m v cx/\VR m v' cy)/\(mh P t=some true->∃xs ys,cx=.agg xs/\cy=.agg ys/\cA m l xs.toList/\cA m l' ys.toList))->(Op.equalIn dd t cx cy).run P w=.ok b w
 |0,t,c,h,_,_,_,_,_,_,_,_,_,_,_=>by simp[wF]at h|d+1,t,c,h,0,hdd,_,_,_,_,_,_,_,_,_=>by omega|d+1,t,c,h,dd+1,hdd,cx,cy,l,l',b,heq,hl1,hl2,hv=>by
  rcases uk h with⟨ha,q,rfl,h0,h1,h2⟩|⟨ha,hu,hs,hf⟩;.obtain⟨v,v',rfl,rfl,v1,v2⟩:=hv.1 ha;obtain⟨a,r1,a',r2,r,e1,e2,hl,g1,g2⟩:=heq;cases e1;cases e2;have hr:=hl m cx cy v1 v2 dd t w h0 h1 h2;cases r with|true=>have:b=true:=g1 rfl;subst this;exact hr|false=>rw[g2 rfl];exact hr
  .obtain⟨xs,ys,rfl,rfl,v1,v2⟩:=hv.2 ha;rw[run_equalIn_struct w dd t xs ys hu hs];clear h ha hu hs hv;generalize(P.fieldsOf t).toList=fs at hf;have key:∀(fs:List Field)(off:Nat)(c:List Nat)(b:Bool),vE P (wF P d) fs off=some c->MS P c (l.drop off) (l'.drop off) b->l.length=off+c.length->l'.length=off+c.length->(Op.eqFields dd xs ys fs).run P w=.ok b w:=by intro fs;induction fs with|nil=>intro off c b hc he _ _;simp only[vE,Option.some.injEq]at hc;subst hc;have:b=true:=he;subst this;simp[Op.eqFields]|cons f fs ih=>
     intro off c b hc he hle hle';simp only[vE]at hc;split at hc;.cases hc
     .rename_i hn;split at hc
      .rename_i cf s r h1 h2 h3;split at hc
       .rename_i h4;cases hc;rw[Bool.and_eq_true]at h4;have hoff:f.offset=off:=by simpa using h4.1
        have hsz:s=cf.length:=by simpa using h4.2
        rw[h2]at h3;simp only[YU]at h3;obtain⟨b1,g1,g2,g3⟩:=MS.split he;have hn':f.name≠ "_":=by simpa using hn
        have hd:∃d',d=d'+1:=by cases d with|zero=>simp[wF]at h1|succ d'=>exact⟨d',rfl⟩
        obtain⟨d',rfl⟩:=hd;have hpart:∃p p',(part f.type xs f.offset).run P w=.ok p w/\(part f.type ys f.offset).run P w=.ok p' w/\(Op.equalIn dd f.type p p').run P w=.ok b1 w:=by
         rw[hoff];rcases uk h1 with⟨ha,q,rfl,_⟩|⟨ha,_⟩
         .have g1':=g1;obtain⟨a,r1,a',r2,rr,e1,e2,_⟩:=g1';have e1':l[off]?=some a:=by have:=congrArg (λz=>z[0]?) e1;simpa using this
          have e2':l'[off]?=some a':=by have:=congrArg (λz=>z[0]?) e2;simpa using this
          obtain⟨p,q1,q2⟩:=(gU (P:=P) (t:=f.type) (off:=off) v1 (w:=w)).2 a ha e1';obtain⟨p',q3,q4⟩:=(gU (P:=P) (t:=f.type) (off:=off) v2 (w:=w)).2 a' ha e2';have hone:∀(z:List V)(x:V)(r:List V),(z.drop off).take 1=x::r->(z.drop off).take 1=[x]:=λz x r e=>by
           have hl:=congrArg Wl e;simp only[Yv,YH]at hl;have:r=[]:=by cases r with|nil=>rfl|cons=>simp at hl;omega
           rw[e,this]
          exact⟨p,p',q1,q3,uB (d'+1) f.type _ h1 dd (by omega) p p' _ _ b1 g1 ((congrArg Wl (hone _ _ _ e1)).trans rfl) ((congrArg Wl (hone _ _ _ e2)).trans rfl) ⟨λ_=>⟨a,a',hone _ _ _ e1,hone _ _ _ e2,q2,q4⟩,λh=>(by rw[ha]at h;cases h)⟩⟩
         .rw[YB]at hle hle';obtain⟨p,q1,q2⟩:=(gU (P:=P) (t:=f.type) (off:=off) v1 (w:=w)).1 s ha h2 (by omega);obtain⟨p',q3,q4⟩:=(gU (P:=P) (t:=f.type) (off:=off) v2 (w:=w)).1 s ha h2 (by omega);rw[hsz]at q2 q4;exact⟨_,_,q1,q3,uB (d'+1) f.type _ h1 dd (by omega) _ _ _ _ b1 g1 (by rw[Yv,WJ];omega) (by rw[Yv,WJ];omega) ⟨λh=>(by rw[ha]at h;cases h),λ_=>⟨_,_,rfl,rfl,q2,q4⟩⟩⟩
        obtain⟨p,p',q1,q2,q3⟩:=hpart;simp only[Op.eqFields,hn',ne_eq,not_false_eq_true,if_true,Sem.run_bind,q1,q2,q3,Result.andThen_ok];cases b1 with|true=>simp only[Bool.not_true,YV,if_false];rw[YB]at hle hle';refine ih _ r b h3 ?_ (by omega) (by omega);have:=g2 rfl;rw[Qg,Qg]at this;rw[hsz];exact this|false=>rw[g3 rfl];simp
       .cases hc
      .cases hc
   exact key fs 0 c b hf (by simpa using heq) (by omega) (by omega)
theorem yM:∀l:List Nat,BP l=l.length|[]=>rfl|a::l=>by show WQ (BP l)=_;rw[yM l];rfl
theorem xy{op}{xt yt}{x y}{x' y'}{c}(hop:o.op=.binOp op xt x y yt)(hx:aN nt x=some x')(hy:aN nt y=some y')(hrun:∀(m)(w)(xs ys)(l l')(b),MS P c l l' b->l.length=c.length->l'.length=c.length->cA m l xs.toList->cA m l' ys.toList->(Op.equalIn 10000 xt (.agg xs) (.agg ys)).run P w=.ok b w)(h:aQ (jH P op xt c x' y') id ph e H k=1):Good P nt o e H k:=by
 have mem:x∈o.op.operands/\y∈o.op.operands:=by simp[hop,Op.operands]
 have hnd:∀c,o.op≠.defer c:=by simp_all
 unfold jH at h;split at h;.exact(aw h).elim
 rename_i hg;have hg':P.eqGuardType P.depth xt=false:=by simp_all
 have key:∀neg,(op=if neg then .neq else .eql)->JI c neg x' y' id ph e H k=1->Good P nt o e H k:=by
  intro neg hneg h';unfold JI at h';rw[aq]at h';obtain⟨l,hl,h1⟩:=qX h';rw[aq]at h1;obtain⟨l',hl',h2⟩:=qX h1;obtain⟨h3,h4⟩:=aX h2;obtain⟨h5,h6⟩:=aX h4;have e1:=cU h3;have e2:=cU h5;rw[kF,yM]at e1 e2;obtain⟨b,h7,h8⟩:=Mg h6;have h9:k (.bool (if neg then !b else b)) H=1:=by
   rcases bS h7 with⟨rfl,h10⟩|⟨rfl,h10⟩;.rcases bS h10 with⟨rfl,h11⟩|⟨rfl,h11⟩<;>exact h11
   simp_all
  refine⟨_,_,fD.bN hnd λm w ac ho=>?_,h9⟩;have vx:=ho x mem.1 x' hx;have vy:=ho y mem.2 y' hy;rw[hl]at vx;rw[hl']at vy;obtain⟨xs,hcx,v1⟩:=vx;obtain⟨ys,hcy,v2⟩:=vy;have hr:=hrun m w xs ys l l' b h8 e1 e2 v1 v2;refine⟨.bool (if neg then !b else b),?_,by rfl⟩;have hgr:=run_eqGuard_agg w op xt x y xs ys hg';simp only[execOp,hop,hcx,hcy,Sem.run_bind,hgr,Result.andThen_ok];cases neg with|true=>have:=run_neq_struct (P:=P) w xt xs ys;simp_all|false=>have:=run_eql_struct (P:=P) w xt xs ys;simp_all
 split at h;.exact key false (by simp) h
 .exact key true (by simp) h
 .exact(aw h).elim
theorem Ja{op}{xt yt}{x y}{x' y'}{fs}(hop:o.op=.binOp op xt x y yt)(hx:aN nt x=some x')(hy:aN nt y=some y')(hu:P.underlying xt=some (.struct fs))(h:aQ (mU P op xt x' y') id ph e H k=1):Good P nt o e H k:=by
 unfold mU at h;split at h;rotate_left;.exact(aw h).elim
 rename_i c hc;exact xy hop hx hy (λm w xs ys l l' b h8 e1 e2 v1 v2=>uB 4 xt c hc 10000 (by omega) (.agg xs) (.agg ys) l l' b h8 e1 e2 ⟨λh=>by simp[mh,hu]at h,λ_=>⟨xs,ys,rfl,rfl,v1,v2⟩⟩) h
theorem Ov{xt el}{n q}(hu:P.underlying xt=some (.array n el))(hc:wF P 1 el=some [q])(hs:rq P el=some 1)(d)(m)(w)(xs ys)(l l')(b)(h:MS P (Yc n q) l l' b)(hv:cA m l xs.toList)(hv':cA m l' ys.toList):(Op.equalIn (d+2) xt (.agg xs) (.agg ys)).run P w=.ok b w:=by
 rcases uk hc with⟨ha,q',he,h0,h1,h2⟩|⟨_,_,_,hf⟩
 .cases he;obtain⟨i,hi,hsz⟩:=Yj.1 hs;have hcell:P.cellsOf el=1:=by simp[Program.cellsOf,hi,hsz]
  rw[run_equalIn_array w (d+1) xs ys hu hi,hcell,List.range_eq_range'];have key:∀(r j)(b),MS P (Yc r q) (l.drop j) (l'.drop j) b->(Op.eqItems (d+1) el 1 xs ys (List.range' j r)).run P w=.ok b w:=by intro r;induction r with|zero=>intro j b hb;have:=hb;subst this;rfl|succ r ih=>
    intro j b hb;obtain⟨a,l1,a',l1',rr,e1,e2,hl,g1,g2⟩:=hb;have ea:=by have:=congrArg (λz=>z[0]?) e1;simpa using this
    have ea':=by have:=congrArg (λz=>z[0]?) e2;simpa using this
    have et:l.drop (j+1)=l1:=by have:=congrArg (List.drop 1) e1;rw[Qg]at this;simp_all
    have et':l'.drop (j+1)=l1':=by have:=congrArg (List.drop 1) e2;rw[Qg]at this;simp_all
    obtain⟨p,q1,q2⟩:=(gU hv (w:=w)).2 a ha ea;obtain⟨p',q3,q4⟩:=(gU hv' (w:=w)).2 a' ha ea';have q5:=hl m p p' q2 q4 d el w h0 h1 h2;rw[List.range'_succ];simp only[Op.eqItems,Wb,Sem.run_bind,q1,q3,q5,Result.andThen_ok];cases rr with|true=>exact ih (j+1) b (by simp_all)|false=>simp_all
  exact key n 0 b (by simp_all)
 .revert hf;generalize(P.fieldsOf el).toList=fs;intro hf;cases fs with|nil=>simp[vE]at hf|cons f fs=>
   simp only[vE]at hf;split at hf;.cases hf
   .simp[wF]at hf
theorem Je{op}{xt yt el}{n}{x y}{x' y'}(hop:o.op=.binOp op xt x y yt)(hx:aN nt x=some x')(hy:aN nt y=some y')(hu:P.underlying xt=some (.array n el))(h:aQ (mV P op xt n el x' y') id ph e H k=1):Good P nt o e H k:=by
 unfold mV at h;split at h;.rename_i q hc hs;exact xy hop hx hy (λm w xs ys l l' b h8 e1 e2 v1 v2=>Ov hu hc hs 9998 m w xs ys l l' b h8 v1 v2) h
 .exact(aw h).elim
theorem ZV{op:BinOp}{xt yt:TypeId}{x y:Operand}(hop:o.op=.binOp op xt x y yt)(h:aQ (ai P nt o) id ph e H k=1):Good P nt o e H k:=by
 simp only[ai,hop]at h;have mem:x∈o.op.operands/\y∈o.op.operands:=by simp[hop,Op.operands]
 split at h;rotate_left;.exact(aw h).elim
 rename_i x' y' hx hy;have hnd:∀c,o.op≠.defer c:=by simp[hop]
 have hex:∀(ac:Act)(w:World),(execOp ac.eval o).run P w=((do eqGuard op xt x y (ac.eval x) (ac.eval y);binOp op xt (ac.eval x) (ac.eval y):Sem Value).run P w).andThen λv w'=>.ok (.value v) w':=by intro ac w;simp only[execOp,hop,Sem.run_bind,Sem.run_pure]
 unfold qG at h;split at h
 .rename_i kx hu;split at h
  .rename_i f hf;have h':acd (mq kx) f x' y' id ph e H k=1:=h;unfold acd at h';rw[aq]at h';obtain⟨k1,a,ha,h1⟩:=dL h';rw[aq]at h1;obtain⟨k2,b,hb,h2⟩:=dL h1;obtain⟨h3,h4⟩:=aX h2;obtain⟨h5,h6⟩:=aX h4;have e3:=cU h3;have e5:=cU h5;subst e3 e5;have h7:k (.bool (ej f a b)) H=1:=by rcases bS h6 with⟨h8,h9⟩|⟨h8,h9⟩<;>rw[h8]<;>exact h9
   refine⟨_,_,fD.bN hnd λm w ac ho=>?_,h7⟩;have vx:=ho x mem.1 x' hx;have vy:=ho y mem.2 y' hy;rw[ha]at vx;rw[hb]at vy;simp only[VR,dQ]at vx vy;refine⟨.bool (ej f a b),?_,by simp only[VR]⟩;rw[hex,vx.1,vy.1,Sem.run_bind,oY];simp only[Result.andThen_ok,ae0 hf vx.2.1 vy.2.1]
  .split at h
   .rename_i f hf;have key:∀ky:IntKind,((tG op=false/\ky=kx)\/(tG op=true/\(ky.signed=true->ky.bits=64)))->Ol (mq kx) (mq ky) f x' y' id ph e H k=1->Good P nt o e H k:=by intro ky hky h';obtain⟨a,b,ha,hb,h1⟩:=CW h';obtain⟨r,h2,h3⟩:=RP (P:=P) (t:=xt) (op:=op) (k:=kx) (ky:=ky) hf hky h1;refine⟨_,_,fD.bN hnd λm w ac ho=>?_,h2⟩;have vx:=ho x mem.1 x' hx;have vy:=ho y mem.2 y' hy;rw[ha]at vx;rw[hb]at vy;simp only[VR,dQ]at vx vy;obtain⟨h4,h5⟩:=h3 vx.2.1 vy.2.1;refine⟨.int kx (toI kx r),?_,by simp only[VR,dQ];exact⟨trivial,h4,yG kx⟩⟩;rw[hex,vx.1,vy.1,Sem.run_bind,oY];simp only[Result.andThen_ok,h5 w]
    split at h
    .rename_i hs;split at h
     .rename_i ky hky;split at h;.rename_i hok;exact key ky (YD ⟨hs,λhsg=>by simpa[af9,hsg]using hok⟩) h
      .exact(aw h).elim
     .exact(aw h).elim
    .rename_i hs;exact key kx (YF ⟨by simpa using hs,rfl⟩) h
   .exact(aw h).elim
 .have strs:∀(m:M)(ac:Act),OR m nt e ac o->∀l1 n1 l2 n2,aA x' e=.str l1 n1->aA y' e=.str l2 n2->ac.eval x=.string ⟨(aF l1 n1).toArray⟩/\n1<256^l1/\ac.eval y=.string ⟨(aF l2 n2).toArray⟩/\n2<256^l2:=by intro m ac ho l1 n1 l2 n2 e1 e2;have vx:=ho x mem.1 x' hx;have vy:=ho y mem.2 y' hy;rw[e1]at vx;rw[e2]at vy;simp only[VR]at vx vy;exact⟨vx.1,vx.2,vy.1,vy.2⟩
  have cmp:∀neg:Bool,(op=if neg then .neq else .eql)->TL neg x' y' id ph e H k=1->Good P nt o e H k:=by
   intro neg hneg h';unfold TL at h';rw[aq]at h';obtain⟨l1,n1,h1,h2⟩:=eJ h';rw[aq]at h2;obtain⟨l2,n2,h3,h4⟩:=eJ h2;have h5:k (.bool (if neg then !(decide (l1=l2)&&YR n1 n2)else(decide (l1=l2)&&YR n1 n2))) H=1:=by
    rcases bS h4 with⟨h5,h6⟩|⟨h5,h6⟩;.have:=cU h5;subst this;rcases bS h6 with⟨h7,h8⟩|⟨h7,h8⟩<;>rw[h7]<;>cases neg<;>simp<;>exact h8
    .rw[fL]at h5;rw[h5];cases neg<;>simp<;>exact h6
   refine⟨_,_,fD.bN hnd λm w ac ho=>?_,h5⟩;obtain⟨v1,v2,v3,v4⟩:=strs m ac ho l1 n1 l2 n2 h1 h3;refine⟨.bool (if neg then !(decide (l1=l2)&&YR n1 n2)else(decide (l1=l2)&&YR n1 n2)),?_,by simp only[VR]⟩;rw[hex,v1,v3,Sem.run_bind,oZ];have hq:((⟨(aF l1 n1).toArray⟩:ByteArray).toList==(⟨(aF l2 n2).toArray⟩:ByteArray).toList)=(decide (l1=l2)&&YR n1 n2):=by
    by_cases hl:l1=l2;.subst hl;rw[ado v2 v4];simp
    .rw[decide_eq_false hl,Qt];simp only[beq_eq_false_iff_ne,ne_eq,ByteArray.toList_eq];intro he;have:=congrArg Wl he;simp[aL]at this;exact hl this
   subst hneg;cases neg;.simp only[Result.andThen_ok,YV,if_false,binOp,Op.stringOp,hq,Sem.run_pure]
   .simp only[Result.andThen_ok,if_true,binOp,Op.stringOp,hq,Sem.run_pure]
  split at h
  .have h':FQ x' y' id ph e H k=1:=h;unfold FQ at h';rw[aq]at h';obtain⟨l1,n1,h1,h2⟩:=eJ h';rw[aq]at h2;obtain⟨l2,n2,h3,h4⟩:=eJ h2;rw[ay]at h4;obtain⟨h5,h6⟩:=aX h4;rw[ay]at h6;refine⟨_,_,fD.bN hnd λm w ac ho=>?_,h6⟩;obtain⟨v1,v2,v3,v4⟩:=strs m ac ho l1 n1 l2 n2 h1 h3;have hlt:l1+l2<9223372036854775808:=fu h5;have e1:Yi n1 (Yt n2 (Yn 8 l1))=n1+256^l1*n2:=by show n1+n2<<<(8*l1)=_;rw[Qs,QY,Ww]
   have hbig:¬((((l1+l2:Nat):Int))>IntKind.i64.max):=by simp[IntKind.max,IntKind.signed,IntKind.bits];omega
   refine⟨.string ⟨(aF (l1+l2) (n1+256^l1*n2)).toArray⟩,?_,?_⟩
   .rw[hex,v1,v3,Sem.run_bind,oZ];have hs1:(⟨(aF l1 n1).toArray⟩:ByteArray).size=l1:=by simp[ByteArray.size,aL]
    have hs2:(⟨(aF l2 n2).toArray⟩:ByteArray).size=l2:=by simp[ByteArray.size,aL]
    have happ:(⟨(aF l1 n1).toArray⟩:ByteArray)++(⟨(aF l2 n2).toArray⟩:ByteArray)=⟨(aF (l1+l2) (n1+256^l1*n2)).toArray⟩:=by apply Go.WideShapes.bytes_inj;rw[fI _ _ _ _ v2];simp[ByteArray.data_append]
    simp only[Result.andThen_ok,binOp,Op.stringOp,hs1,hs2,if_neg hbig,happ,Sem.run_pure]
   .rw[e1];simp only[VR];refine⟨rfl,?_⟩;show n1+256^l1*n2<256^(l1+l2);rw[YG2];calc n1+256^l1*n2<256^l1+256^l1*n2:=by omega
     _=256^l1*(n2+1):=by rw[YM4,Wb,YH0]
     _<=256^l1*256^l2:=YB2 _ v4
  .exact cmp false (by simp) h
  .exact cmp true (by simp) h
  .exact(aw h).elim
 .rename_i hu;exact nh hop hx hy (YF ⟨rfl,hu⟩) (λe5=>by cases e5) h
 .rename_i hu;exact nh hop hx hy (YD (YF ⟨rfl,_,hu⟩)) (λe5=>by cases e5) h
 .rename_i hu;exact nh hop hx hy (YD (YD (YF ⟨rfl,_,hu⟩))) (λe5=>by cases e5) h
 .rename_i hu;exact nh hop hx hy (YD (YD (YD (YF ⟨rfl,_,_,hu⟩)))) (λe5=>by cases e5) h
 .rename_i hu;exact nh hop hx hy (YD (YD (YD (YD (YF ⟨rfl,_,_,_,hu⟩))))) (λe5=>by cases e5) h
 .rename_i hu;split at h;.rename_i hi;exact nh hop hx hy (YD (YD (YD (YD (YD ⟨rfl,_,hu⟩))))) (λ_=>by simpa using hi) h
  .exact(aw h).elim
 .rename_i fs hu;exact Ja hop hx hy hu h
 .rename_i n el hu;exact Je hop hx hy hu h
 .exact(aw h).elim
 .exact(aw h).elim
end
end Go.Ev
end
