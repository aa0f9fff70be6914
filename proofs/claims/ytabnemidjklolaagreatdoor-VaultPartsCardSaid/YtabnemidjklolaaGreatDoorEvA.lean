/- EvA: a part of the evaluator,of its logic,or of the laws' walk in it. -/
import Derived.Below
import Derived.Calls
import Derived.CallsIn
import Derived.OrdersIn
import Derived.RangeFuncRecord
import Derived.Orders
import Derived.Laws.Sem
import Derived.Laws.Entries
import Derived.KernelRfl
import Derived.Laws.Cells
import Derived.TacticsIn
import Derived.Lib.Strings
import Derived.Laws.Strings
import Derived.WideShapes
import Derived.Laws.StructEq
import Derived.ChangeKeysEq
open List renaming getElem?_eq_getElem→YA,length_append→YB,length_cons→YG,mem_cons_of_mem→YI,cons_append→YK,mem_cons_self→YL,map_cons→YN,mem_cons→YS,replicate→YZ,mem_of_getElem?→Yk,getElem?_append_right→Yl,getElem?_append_left→Yp,getElem?_map→Yq,length_take→Yv,getElem?_take→Yy,getElem?_drop→WG,length_drop→WK,range→WV,length→Wz,getElem?_of_mem→QH,getElem?_cons_succ→QU,drop_drop→Qd,map_take→YB1,map_drop→YF3
open Nat renaming le_refl→YC,lt_of_lt_of_le→YF,beq→YR,zero_le→Ya,ble→Yb,lt_or_ge→Yf,add→Yg,mul→Ym,le_trans→Ys,shiftLeft→Yt,mod→Yx,blt→WA,shiftRight→WC,shiftRight_eq_div_pow→WD,mod_eq_of_lt→WE,succ→WN,ble_eq_true_of_le→WU,mul_one→Wa,min_eq_left→Wf,div→Wm,mul_comm→Wt,lt_of_le_of_lt→Wv,sub→QO,and_two_pow_sub_one_eq_mod→QS,pow_mul→QT,ne_of_lt→QZ,pow_succ→Qa,le_of_lt→Qb,mod_lt→Qk,shiftLeft_eq→Qm,min_eq_right→Qo,le_of_ble_eq_true→Qw,mul_le_mul_left→YA3,land→YB0,pow→YD4,div_lt_of_lt_mul→YF4,pow_add→YG0,add_comm→YG3,mod_mul_right_div_self→YH0,div_div_eq_div_mul→YK1,div_le_self→YL1,mul_add→YL4,mul_right_comm→YO1,xor→YP1,and_le_left→YR1
open Or renaming inr→YE,inl→YH
open Array renaming getElem?_eq_some_iff→YO,getElem?_toList→Yr,getElem?_setIfInBounds_ne→WW,getElem?_modify→QB
open Bool renaming false_eq_true→YT,false_and→Qn,true_and→YN4
open Option renaming getD_some→YU,map_eq_some_iff→Yh
open Int renaming toNat_natCast→Qy,fdiv_eq_ediv_of_nonneg→YH1,emod_eq_of_lt→YI1,mul_emod→YK2
open Prod renaming rec→YJ2
set_option linter.unusedVariables false
set_option linter.unusedSimpArgs false
set_option linter.unusedSectionVars false
section
namespace Go.Ev
open Go.RowKit
abbrev R:=Nat
def no(c:Nat):R:=c+2
theorem aw{c:Nat}(h:no c=1):False:=by have h':c+2=1:=h;omega
inductive V where|int(k n:Nat)|bool(b:Bool)|str(len n:Nat)|ptr(b off:Nat)|py|slice(b off len cap sz:Nat)|aC|map(b:Nat)|ve|func(f:Nat)(caps:List V)|sU(b:Nat)|rf|iface(t:Nat)(v:V)|Fy|agg(l:List V)|cG(l:List V)
def lN:IntKind->Nat|.i8=>0|.i16=>1|.i32=>2|.i64=>3|.u8=>4|.u16=>5|.u32=>6|.u64=>7
def pe:Nat->IntKind|0=>.i8|1=>.i16|2=>.i32|3=>.i64|4=>.u8|5=>.u16|6=>.u32|_=>.u64
theorem dF(k:IntKind):pe (lN k)=k:=by cases k<;>rfl
theorem xC(k:IntKind):lN k<8:=by cases k<;>decide
inductive I8 where|i0|i1|i2|i3|i4|i5|i6|i7 deriving DecidableEq
inductive N8(α:Type)where|mk(a0 a1 a2 a3 a4 a5 a6 a7:α)
abbrev Env:=N8 (N8 (N8 V))
inductive Slot where|mk(a b c:I8)deriving DecidableEq
inductive Arg where|s(s:Slot)|c(v:V)
inductive BF where|add(m:Nat)|sub(m:Nat)|mul(m:Nat)|afC|bor|aax|acT(m:Nat)|shl(m bits:Nat)|shr(half bits:Nat)|quo(half:Nat)|rem(half:Nat)
inductive CF where|eq|ne|lt(o m:Nat)|le(o m:Nat)|gt(o m:Nat)|ge(o m:Nat)
inductive lk where|bad|gU(x:Arg)|pick(c x y:Arg)|nT(z:List V)|abl(n:Nat)|box(x:Arg)|build(zero:List V)(parts:List (Nat×Nat×Arg))|jD(u8:Bool)(len:Nat)(zero:List V)(parts:List (Nat×Nat×Arg))|cR(a:Arg)|cJ(n:Nat)(a:Arg)|eA(a x:Arg)|jJ(n:Nat)(a x:Arg)|Fx(x:Arg)|bin(kd ky:Nat)(f:BF)(x y:Arg)|cmp(kd:Nat)(f:CF)(x y:Arg)|Tw(x y:Arg)|TA(neg:Bool)(x y:Arg)|eqv(kc:Nat)(neg:Bool)(x y:Arg)|vd(x:Arg)|wM(src dst mode c:Nat)(x:Arg)|KD(x:Arg)|KF(x:Arg)|mkI(t:Nat)(x:Arg)|mkF(f:Nat)(caps:List Arg)|mkMap|mkSlice(u8:Bool)(zero:List V)(l c:Arg)|slS(x:Arg)(lo hi:Option Arg)|slV(size:Nat)(x:Arg)(lo hi mx:Option Arg)|slA(n size:Nat)(x:Arg)(lo hi mx:Option Arg)|gS(off:Nat)(x:Arg)|MY(off:Nat)(x:Arg)|MZ(off n:Nat)(x:Arg)|ixA(len size:Nat)(x i:Arg)|zC(size:Nat)(x i:Arg)|ixS(x i:Arg)|ixG(len size:Nat)(agg:Bool)(x i:Arg)|look(ks:Bool)(zero:V)(ok:Bool)(m x:Arg)|abk(ks:Bool)(m x y:Arg)|agx(ks:Bool)(m x:Arg)|Sg(x:Arg)(i:Nat)|call(f:Nat)(args:List Arg)|Rn(x:Arg)(args:List Arg)|app(u8:Bool)(size:Nat)(s x:Arg)|copy(size:Nat)(d s:Arg)|aeH(x:Arg)|fA(x:Arg)|B8(x:Arg)|cap(x:Arg)|mm(kd o m:Nat)(mx:Bool)(x y:Arg)|jf(cls:List Nat)(neg:Bool)(x y:Arg)|mm3(kd o m:Nat)(mx:Bool)(x y z:Arg)|tas(t:Nat)(x:Arg)
inductive Db where|mk(id:Nat)(dst:Option Slot)(guard:Option (Slot×Bool))(cls:Nat)(op:lk)
inductive uQ where|mk(id:Nat)(dst:Option Slot)(guard:Option (Slot×Bool))(tag i bf:Nat)(ad:Arg)(op:lk)
inductive RC where|mk(nt fid:Nat)(c:Code)
inductive au where|bad|skip|rj(ops:List Db)|tz(ops:List Db)|aa0(ops:List uQ)|ab9(ops:List uQ)|seq(a b:au)|cond(c:Arg)(a b:au)|block(id:Nat)(a:au)|loop(a:au)|exit(id:Nat)|ret|kP(g:Arg)(ps:List Slot)(assign body:RC)|Ct(g:Arg)(ps:List Slot)(assign body:RC)
inductive RV where|tmp(s:Slot)|DW(s:Slot)|nF(s:Slot)(n:Nat)
def d8:Nat->I8|0=>.i0|1=>.i1|2=>.i2|3=>.i3|4=>.i4|5=>.i5|6=>.i6|_=>.i7
def bj(t:Nat):Slot:=.mk (d8 (t/64)) (d8 (t/8%8)) (d8 (t%8))
def enc:List UInt8->Nat|[]=>0|x::l=>x.toNat+256*enc l
def mS:Value->Option V|.bool b=>some (.bool b)|.int k n=>if k.wrap n==n then some (.int (lN k) (n%(2^k.bits:Nat)).toNat)else none|.string s=>some (.str s.data.toList.length (enc s.data.toList))|.pointer none=>some .py|.slice none 0 0=>some .aC|.map none=>some .ve|.nilFunc=>some .rf|.nilIface=>some .Fy|_=>none
def consts:List Value->Option (List V)|[]=>some []|v::l=>match mS v,consts l with|some u,some r=>some (u::r)|_,_=>none
def BC:Value->Option V|.agg cs=>(consts cs.toList).map .agg|.tuple cs=>(consts cs.toList).map .cG|v=>mS v
def aL(nt:Nat):Operand->Option Arg|.tmp t=>if t<nt then some (.s (bj t))else none|.const v=>(BC v).map .c|.func f=>some (.c (.func (2*f) []))|.global _=>none
def bX(nt:Nat):List Operand->Option (List Arg)|[]=>some []|x::l=>match aL nt x,bX nt l with|some a,some r=>some (a::r)|_,_=>none
section
variable(P:Program)(nt:Nat)
def kindOf(t:TypeId):Option IntKind:=match P.underlying t with|some (.int k)=>some k|_=>none
def EY(t:TypeId):Bool:=match P.underlying t with|some (.int .u8)=>true|_=>false
def lJ(t:TypeId):Option Bool:=match P.underlying t with|some (.struct _)|some (.array _ _)=>some true|some _=>some false|none=>none
def qz(t:TypeId):Option Nat:=(P.info? t).map (·.size)
def qK(t:TypeId):Option (List V):=match P.info? t with
 |some i=>match i.zero with|some z=>consts z.cells.toList|none=>none
 |none=>none
def zeroV(t:TypeId):Option V:=match P.info? t with
 |some i=>match i.zero with|some z=>BC z|none=>none
 |none=>none
def half(k:IntKind):Nat:=if k.signed then 2^(k.bits-1)else 2^k.bits
def dX(k:IntKind):Nat:=if k.signed then 2^(k.bits-1)else 0
def aam(op:BinOp)(k:IntKind):Option BF:=match op with|.add=>some (.add (2^k.bits))|.sub=>some (.sub (2^k.bits))|.mul=>some (.mul (2^k.bits))|.and=>some .afC|.or=>some .bor|.xor=>some .aax|.andNot=>some (.acT (2^k.bits))|.shl=>some (.shl (2^k.bits) k.bits)|.shr=>some (.shr (half k) k.bits)|.quo=>some (.quo (half k))|.rem=>some (.rem (half k))|_=>none
def aaH(op:BinOp)(k:IntKind):Option CF:=match op with|.eql=>some .eq|.neq=>some .ne|.lss=>some (.lt (dX k) (2^k.bits))|.leq=>some (.le (dX k) (2^k.bits))|.gtr=>some (.gt (dX k) (2^k.bits))|.geq=>some (.ge (dX k) (2^k.bits))|_=>none
def si:BinOp->Bool|.shl|.shr=>true|_=>false
def aeS(k:IntKind):Bool:=!k.signed||k.bits==64
def isC:Arg->Bool|.c _=>true|.s _=>false
def nG(kc:Nat)(op:BinOp)(x y:Arg):lk:=match op with|.eql=>.eqv kc false x y|.neq=>.eqv kc true x y|_=>.bad
def uj(rc:TypeId->Option (List Nat)):List Field->Nat->Option (List Nat)|[],_=>some []|f::l,off=>if f.name== "_"then none else match rc f.type,qz P f.type,uj rc l (off+(qz P f.type).getD 0)with|some c,some s,some r=>if f.offset==off&&s==c.length then some (c++r)else none|_,_,_=>none
def uU:Nat->TypeId->Option (List Nat)|0,_=>none|d+1,t=>match P.underlying t with|some .bool=>some [0]|some (.int _)=>some [1]|some .string=>some [2]|some (.struct fs)=>if P.stoodInHeld t then none else uj P (uU d) fs.toList 0|_=>none
def jj(op:BinOp)(t:TypeId)(c:List Nat)(x y:Arg):lk:=if P.eqGuardType P.depth t then .bad else match op with|.eql=>.jf c false x y|.neq=>.jf c true x y|_=>.bad
def mc(op:BinOp)(t:TypeId)(x y:Arg):lk:=match uU P 4 t with|some c=>jj P op t c x y|none=>.bad
def me(op:BinOp)(t:TypeId)(n:Nat)(el:TypeId)(x y:Arg):lk:=match uU P 1 el,qz P el with|some [q],some 1=>jj P op t (YZ n q) x y|_,_=>.bad
def pR(op:BinOp)(xt yt:TypeId)(x y:Arg):lk:=match P.underlying xt with
 |some (.int k)=>match aaH op k with|some f=>.cmp (lN k) f x y|none=>match aam op k with|some f=>if si op then(match kindOf P yt with|some ky=>if aeS ky then .bin (lN k) (lN ky) f x y else .bad|none=>.bad)else .bin (lN k) (lN k) f x y|none=>.bad
 |some .string=>match op with|.add=>.Tw x y|.eql=>.TA false x y|.neq=>.TA true x y|_=>.bad
 |some .bool=>nG 0 op x y|some (.pointer _)=>nG 1 op x y|some (.slice _)=>nG 2 op x y|some (.map _ _)=>nG 3 op x y|some (.func _ _ _)=>nG 4 op x y|some (.interface _)=>if isC x||isC y then nG 5 op x y else .bad|some (.struct _)=>mc P op xt x y|some (.array n el)=>me P op xt n el x y|some _=>.bad|none=>.bad
def tp(k k':IntKind)(x:Arg):lk:=if k.signed&&k.bits<k'.bits then .wM (lN k) (lN k') (2^(k.bits-1)) (2^k'.bits-2^k.bits) x else .wM (lN k) (lN k') 0 (2^k'.bits) x
def La(fs:Array Field):Option (List (Nat×Nat)):=fs.toList.mapM λf=>(P.info? f.type).map λi=>(f.offset,i.size)
def kC(pl:List (Nat×Nat)):List (Nat×Arg)->Option (List (Nat×Nat×Arg))|[]=>some []|(i,a)::l=>match pl[i]?,kC pl l with|some p,some r=>some ((p.1,p.2,a)::r)|_,_=>none
def pU(s:Nat)(l:List (Nat×Arg)):List (Nat×Nat×Arg):=l.map λp=>(p.1*s,s,p.2)
def ec:List (Nat×Operand)->Option (List (Nat×Arg))|[]=>some []|(i,x)::l=>match aL nt x,ec l with|some a,some r=>some ((i,a)::r)|_,_=>none
def Ja:Option Operand->Option (Option Arg)|none=>some none|some x=>(aL nt x).map some
def ij:Nat->List V->List V|0,_=>[]|n+1,l=>l++ij n l
def Nk(t:TypeId):Option Bool:=match P.underlying t with|some (.int _)=>some false|some .string=>some true|_=>none
def z8:List V->Bool|[]=>true|.int 4 0::l=>z8 l|_=>false
def abg(t:TypeId):Bool:=match P.underlying t with|some .string|some (.slice _)|some (.map _ _)=>true|_=>false
def tW(t:TypeId):Option TypeId:=match P.underlying t with|some (.slice e)=>some e|_=>none
def acb(t:TypeId)(s:Nat):Bool:=match qK P t with|some z=>z.length==s|none=>false
def dh(b:Builtin)(asL:List Operand)(ts:List TypeId):lk:=match b with|.len=>(match bX nt asL,ts with|some [x],t::_=>(match P.underlying t with|some .string=>.aeH x|some (.slice _)=>.fA x|some (.map _ _)=>.B8 x|_=>.bad)|_,_=>.bad)|.cap=>(match bX nt asL,ts with|some [x],t::_=>(match tW P t with|some _=>.cap x|none=>.bad)|_,_=>.bad)|.append=>(match bX nt asL,ts with|some [s,x],[st,xt]=>(match tW P st with|some e=>(match qz P e,P.info? e with|some s',some i=>if 0<s'&&i.bytes<=65536&&acb P e s'&&abg P xt then .app (EY P e&&s'==1) s' s x else .bad|_,_=>.bad)|none=>.bad)|_,_=>.bad)|.copy=>(match bX nt asL,ts with|some [d,s],dt::_=>(match tW P dt with|some e=>(match qz P e with|some s'=>.copy s' d s|none=>.bad)|none=>.bad)|_,_=>.bad)|.delete=>(match bX nt asL,ts with|some [m,x],mt::_=>(match P.underlying mt with|some (.map kt _)=>(match Nk P kt with|some ks=>.agx ks m x|none=>.bad)|_=>.bad)|_,_=>.bad)|.max=>(match bX nt asL,ts with|some [x,y],t::_=>(match kindOf P t with|some k=>.mm (lN k) (dX k) (2^k.bits) true x y|none=>.bad)|some [x,y,z],t::_=>(match kindOf P t with|some k=>.mm3 (lN k) (dX k) (2^k.bits) true x y z|none=>.bad)|_,_=>.bad)|.min=>(match bX nt asL,ts with|some [x,y],t::_=>(match kindOf P t with|some k=>.mm (lN k) (dX k) (2^k.bits) false x y|none=>.bad)|some [x,y,z],t::_=>(match kindOf P t with|some k=>.mm3 (lN k) (dX k) (2^k.bits) false x y z|none=>.bad)|_,_=>.bad)|_=>.bad
def ai(o:Oper):lk:=match o.op with
 |.move x|.assign x=>match aL nt x with|some a=>.gU a|none=>.bad
 |.pick c x y=>match aL nt c,aL nt x,aL nt y with|some c,some a,some b=>.pick c a b|_,_,_=>.bad
 |.alloc t=>match qK P t,P.underlying t with|some z,some (.array n _)=>if z8 z&&z.length==n then .abl n else .nT z|some z,some _=>.nT z|_,_=>.bad
 |.box _ x=>match aL nt x with|some a=>.box a|none=>.bad
 |.build t parts=>match qK P t,ec nt parts.toList,P.underlying t with
  |some z,some ps,some (.struct fs)=>match La P fs with|some pl=>(match kC pl ps with|some q=>.build z q|none=>.bad)|none=>.bad
  |some z,some ps,some (.array _ e)=>match qz P e with|some s=>.build z (pU s ps)|none=>.bad
  |_,_,_=>.bad
 |.buildSlice t len parts=>match ec nt parts.toList,P.underlying t with
  |some ps,some (.slice e)=>match qz P e,qK P e with|some s,some z=>if len*s<=1024&&z.length==s then .jD (EY P e&&0<len) len (ij len z) (pU s ps)else .bad|_,_=>.bad
  |_,_=>.bad
 |.load t a=>match aL nt a,lJ P t,qz P t with|some a,some true,some n=>.cJ n a|some a,some false,_=>.cR a|_,_,_=>.bad
 |.store t a x=>match aL nt a,aL nt x,lJ P t,qz P t with|some a,some x,some true,some n=>.jJ n a x|some a,some x,some false,some 1=>.eA a x|_,_,_,_=>.bad
 |.nilCheck x=>match aL nt x with|some a=>.Fx a|none=>.bad
 |.binOp op xt x y yt=>match aL nt x,aL nt y with|some x,some y=>pR P op xt yt x y|_,_=>.bad
 |.unOp op xt x=>match aL nt x,op with
  |some x,.not=>.vd x|some x,.neg=>match kindOf P xt with|some k=>.bin (lN k) (lN k) (.sub (2^k.bits)) (.c (.int (lN k) 0)) x|none=>.bad
  |some x,.xor=>match kindOf P xt with|some k=>.bin (lN k) (lN k) .aax (.c (.int (lN k) (2^k.bits-1))) x|none=>.bad
  |_,_=>.bad
 |.convert s d x=>match aL nt x,P.underlying s,P.underlying d with|some x,some (.int k),some (.int k')=>tp k k' x|some x,some (.slice e),some .string=>if EY P e then .KD x else .bad|some x,some .string,some (.slice e)=>if EY P e then .KF x else .bad|some x,some .string,some .string=>.Tw x (.c (.str 0 0))|_,_,_=>.bad
 |.makeInterface t x=>match aL nt x,P.underlying t with|some _,some (.interface _)=>.bad|some x,some _=>.mkI t x|_,_=>.bad
 |.typeAssert x _ t ok=>match ok,aL nt x,P.underlying t with|true,some _,some (.interface _)=>.bad|true,some x,some _=>.tas t x|_,_,_=>.bad
 |.makeFunc (.func f) first caps=>match first.toList,bX nt caps.toList with
  |[],some l=>.mkF (2*f) l|q::qs,some []=>match bX nt (q::qs)with|some l=>.mkF (2*f+1) l|none=>.bad
  |_,_=>.bad
 |.makeMap _ none=>.mkMap|.makeSlice t l c=>match aL nt l,aL nt c,P.underlying t with
  |some l,some c,some (.slice e)=>match qK P e,qz P e,P.info? e with|some z,some s,some i=>if z.length==s&&0<s&&i.bytes<=65536then .mkSlice (z8 z&&s==1) z l c else .bad|_,_,_=>.bad
  |_,_,_=>.bad
 |.slice t x lo hi mx=>match aL nt x,Ja nt lo,Ja nt hi,Ja nt mx with
  |some x,some lo,some hi,some mx=>match P.underlying t with
   |some .string=>match mx with|none=>.slS x lo hi|some _=>.bad
   |some (.slice e)=>match qz P e with|some s=>(match hi,mx with|none,some _=>.bad|_,_=>.slV s x lo hi mx)|none=>.bad
   |some (.array n e)=>match qz P e with|some s=>(match hi,mx with|none,some _=>.bad|_,_=>.slA n s x lo hi mx)|none=>.bad
   |_=>.bad
  |_,_,_,_=>.bad
 |.fieldAddr t x f=>match aL nt x,P.underlying t with
  |some x,some (.struct fs)=>match fs[f]?with
   |some fd=>match qz P fd.type with|some (_+1)=>.gS fd.offset x|_=>.bad
   |none=>.bad
  |_,_=>.bad
 |.field t x f=>match aL nt x,P.underlying t with
  |some x,some (.struct fs)=>match fs[f]?with
   |some fd=>match lJ P fd.type,qz P fd.type with|some true,some n=>.MZ fd.offset n x|some false,some _=>.MY fd.offset x|_,_=>.bad
   |none=>.bad
  |_,_=>.bad
 |.indexAddr t x i=>match aL nt x,aL nt i,P.underlying t with
  |some x,some i,some (.array len e)=>match qz P e with|some s=>.ixA len s x i|none=>.bad
  |some x,some i,some (.slice e)=>match qz P e with|some s=>.zC s x i|none=>.bad
  |_,_,_=>.bad
 |.index t x i=>match aL nt x,aL nt i,P.underlying t with
  |some x,some i,some .string=>.ixS x i|some x,some i,some (.array len e)=>match qz P e,lJ P e with|some s,some b=>.ixG len s b x i|_,_=>.bad
  |_,_,_=>.bad
 |.lookup t m x ok=>match aL nt m,aL nt x,P.underlying t with
  |some m,some x,some (.map kt e)=>match zeroV P e,Nk P kt with|some z,some ks=>.look ks z ok m x|_,_=>.bad
  |_,_,_=>.bad
 |.mapUpdate t m x y|.insert t m x y=>match aL nt m,aL nt x,aL nt y,P.underlying t with
  |some m,some x,some y,some (.map kt _)=>match Nk P kt with|some ks=>.abk ks m x y|none=>.bad
  |_,_,_,_=>.bad
 |.extract x i=>match aL nt x with|some x=>.Sg x i|none=>.bad
 |.call {callee:=.value (.func f),args,argTypes:=_}=>match bX nt args.toList,P.funcs[f]?with|some l,some _=>.call (2*f) l|_,_=>.bad
 |.call {callee:=.value (.tmp t),args,argTypes:=_}=>match aL nt (.tmp t),bX nt args.toList with|some x,some l=>.Rn x l|_,_=>.bad
 |.call {callee:=.builtin b,args,argTypes:=ts}=>dh P nt b args.toList ts.toList|_=>.bad
def bR:lk->Bool|.gU _|.pick _ _ _|.build _ _|.Fx _|.bin ..|.cmp ..|.Tw ..|.TA ..|.eqv ..|.vd _|.wM ..|.mkI ..|.tas ..|.mkF ..|.slS ..|.slV ..|.slA ..|.gS ..|.MY ..|.MZ ..|.ixA ..|.zC ..|.ixS ..|.ixG ..|.Sg ..|.jf ..=>true|_=>false
def guardOf(ops:Array Oper)(g:Option (Nat×Bool)):Option (Option (Slot×Bool)):=match g with|none=>some none|some (j,b)=>match ops[j]?with
  |some o=>match o.dst with|some d=>if d<nt then some (some (bj d,b))else none|none=>none
  |none=>none
def rY(d:Option Tmp):Option (Option Slot):=match d with|none=>some none|some d=>if d<nt then some (some (bj d))else none
def ie(l:List Bool)(bf:Array Nat)(i:Nat):Bool:=l.zipIdx.all λp=>p.1||p.2==i||(bf.getD i 0).testBit p.2||(bf.getD p.2 0).testBit i
def kW:lk->Bool|.nT _|.abl _=>true|_=>false
def dx(l al:List Bool)(bf:Array Nat)(i:Nat):Bool:=!(al.getD i false)&&l.zipIdx.all λp=>p.1||p.2==i||(bf.getD i 0).testBit p.2||(bf.getD p.2 0).testBit i||(al.getD p.2 false&&WA i p.2)
def du(base:Nat)(ops:Array Oper)(pl al:List Bool)(bf:Array Nat):List Oper->Nat->Option (List Db)|[],_=>some []|o::l,i=>match rY nt o.dst,guardOf nt ops o.guard,du base ops pl al bf l (i+1)with|some d,some g,some r=>let c:=ai P nt o;some (.mk 0 d g (if bR c||dx pl al bf i then 0 else 1) c::r)|_,_,_=>none
def vP(ops:Array Oper)(o:Oper):List Tmp:=o.dst.toList++o.looksAt ops
def jP(ops:Array Oper)(bf:Array Nat):Bool:=ops.toList.zipIdx.all λp=>ops.toList.zipIdx.all λq=>p.2==q.2||(match p.1.dst with|none=>true|some d=>!(vP ops q.1).contains d||(if p.2<q.2then(bf.getD q.2 0).testBit p.2else(bf.getD p.2 0).testBit q.2))
def lx(ops:Array Oper):Bool:=ops.toList.zipIdx.all λp=>p.1.after.toList.all λe=>!Region.binds .any e||e.on<p.2
def EW:lk->Bool|.cR _|.cJ _ _=>true|_=>false
def B3:lk->Bool|.eA _ _|.jJ _ _ _|.app _ _ _ _=>true|_=>false
def qN:lk->Arg|.cR a|.cJ _ a=>a|.eA a _|.jJ _ a _=>a|.app _ _ s _=>s|.box _=>.c .aC|_=>.c .py
def qE:lk->Bool|.box _=>true|_=>false
def jI(bf:Array Nat)(i j:Nat):Bool:=(bf.getD i 0).testBit j||(bf.getD j 0).testBit i
def kG(cs:List lk)(bf:Array Nat)(i:Nat):Bool:=qE (cs.getD i .bad)&&cs.zipIdx.any λq=>B3 q.1&&WA i q.2&&!(jI bf i q.2)
def adO(cs:List lk)(bf:Array Nat)(i:Nat):Bool:=B3 (cs.getD i .bad)&&cs.zipIdx.all λq=>bR q.1||EW q.1||q.2==i||jI bf i q.2||kG cs bf q.2
def tK(l la:List Bool)(bf:Array Nat)(i:Nat):Bool:=l.zipIdx.all λp=>p.1||p.2==i||(bf.getD i 0).testBit p.2||(bf.getD p.2 0).testBit i||(la.getD p.2 false&&WA p.2 i)
def Sv(cs:List lk)(bf:Array Nat):List Bool:=cs.zipIdx.map λq=>kG cs bf q.2
def qY(cs:List lk)(bf:Array Nat)(i:Nat):Bool:=EW (cs.getD i .bad)&&cs.zipIdx.any λq=>adO cs bf q.2&&!(jI bf i q.2)
def aeM(cs:List lk)(bf:Array Nat):List Bool:=cs.zipIdx.map λq=>bR q.1||qY cs bf q.2
def nS(cs:List lk)(bf:Array Nat)(i:Nat):Bool:=tK (aeM cs bf) (Sv cs bf) bf i&&(B3 (cs.getD i .bad)||ie (cs.map bR) bf i)
def ZL(cs:List lk)(bf:Array Nat):Bool:=cs.zipIdx.any λq=>B3 q.1&&!(ie (cs.map bR) bf q.2)
def lC(cs:List lk)(bf:Array Nat)(c:lk)(i:Nat):Nat:=if qY cs bf i then 2 else if bR c then 0 else if nS cs bf i then(if ie (cs.map bR) bf i then 0 else 3)else if kG cs bf i then 4 else 1
def iG(base:Nat)(ops:Array Oper)(cs:List lk)(bf:Array Nat):List Oper->Nat->Option (List uQ)|[],_=>some []|o::l,i=>match rY nt o.dst,guardOf nt ops o.guard,iG base ops cs bf l (i+1)with|some d,some g,some r=>some (.mk 0 d g (lC cs bf (ai P nt o) i) i (bf.getD i 0) (qN (ai P nt o)) (ai P nt o)::r)|_,_,_=>none
def xrs:List Nat:=[10*100000+500]
def Da(c:lk):Nat:=if bR c then 0 else if EW c then 5 else 6
def iH(base:Nat)(ops:Array Oper):List Oper->Nat->Option (List uQ)|[],_=>some []|o::l,i=>match rY nt o.dst,guardOf nt ops o.guard,iH base ops l (i+1)with|some d,some g,some r=>some (.mk 0 d g (Da (ai P nt o)) i 0 (qN (ai P nt o)) (ai P nt o)::r)|_,_,_=>none
def vr(c:lk):Bool:=bR c||EW c
def xOK(cs:List lk)(bf:Array Nat):Bool:=cs.zipIdx.all λq=>vr q.1||ie (cs.map vr) bf q.2
def dn(o:Oper):Option (TypeId×Nat×Nat):=match o.op,o.dst,o.guard with|.load t (.tmp s),some d,none=>some (t,s,d)|_,_,_=>none
def lM(o:Oper):Bool:=(dn o).isSome
def HH(ops:Array Oper)(o:Oper):Bool:=match o.op,o.dst,o.guard with|.store t (.tmp s) (.tmp d),none,none=>o.after.toList.any λe=>Region.binds .any e&&(match ops[e.on]?with|some o'=>dn o'==some (t,s,d)|none=>false)|_,_,_=>false
def kH(ops:Array Oper):List Nat:=ops.toList.filterMap λo=>(dn o).map (·.2.2)
def SW(t:TypeId):Bool:=match lJ P t with|some true=>(qz P t).isSome|some false=>qz P t==some 1|none=>false
def Bo(ops:Array Oper):Bool:=lx ops&&(ops.toList.all λo=>lM o||HH ops o)&&decide (kH ops).Nodup&&ops.toList.all λo=>match dn o with|some (t,s,_)=>!(kH ops).contains s&&SW P t|none=>true
def UY(base:Nat)(ops:Array Oper)(draw:Bool):au:=if draw then if Bo P ops then(match du P nt base ops [] [] #[] (ops.toList.filter lM) 0with|some l=>.rj l|none=>.bad)else let bf:=Region.before ops;if jP ops bf&&lx ops then if xrs.contains base&&xOK (ops.toList.map (ai P nt)) bf then(match iH P nt base ops ops.toList 0with|some l=>.ab9 l|none=>.bad)else if ZL (ops.toList.map (ai P nt)) bf then(match iG P nt base ops (ops.toList.map (ai P nt)) bf ops.toList 0with|some l=>.aa0 l|none=>.bad)else match du P nt base ops (ops.toList.map λo=>bR (ai P nt o)) (ops.toList.map λo=>kW (ai P nt o)) bf ops.toList 0with|some l=>.tz l|none=>.bad else .bad else match du P nt base ops [] [] #[] ops.toList 0with|some l=>.rj l|none=>.bad
def gZ:List Tmp->Option (List Slot)|[]=>some []|t::l=>match gZ l with|some r=>if t<nt then some (bj t::r)else none|none=>none
def iA(fid:Nat)(inl:Bool):Code->au
 |.skip=>.skip|.region id ops draw=>UY P nt (fid*100000+id*100) ops draw|.seq a b=>.seq (iA fid inl a) (iA fid inl b)|.cond c a b=>match aL nt c with|some x=>.cond x (iA fid inl a) (iA fid inl b)|none=>.bad
 |.block id a=>.block id (iA fid inl a)|.loop a=>.loop (iA fid inl a)|.exit id=>.exit id|.ret=>.ret|.rangeFunc g ps asL bo=>if inl then(match aL nt g,gZ nt ps.toList with|some x,some l=>.Ct x l (.mk nt fid asL) (.mk nt fid bo)|_,_=>.bad)else match aL nt g,gZ nt ps.toList with|some x,some l=>.kP x l (.mk nt fid asL) (.mk nt fid bo)|_,_=>.bad
 |_=>.bad
def aN:RC->au|.mk nt fid c=>iA P nt fid true c
def lu(l:List ResultVar):Option (List RV):=match l with
 |[]=>some []|.tmp t::l=>match lu l with|some r=>if t<nt then some (.tmp (bj t)::r)else none|none=>none
 |.cell a t::l=>match lu l,lJ P t,qz P t with|some r,some false,_=>if a<nt then some (.DW (bj a)::r)else none|some r,some true,some n=>if a<nt then some (.nF (bj a) n::r)else none|_,_,_=>none
end
def aD:Nat->Nat->List UInt8|0,_=>[]|l+1,n=>UInt8.ofNat (n%256)::aD l (n/256)
def fq(k:IntKind):Nat:=2^k.bits
def toI(k:IntKind)(n:Nat):Int:=k.wrap (n:Int)
structure M where
 b:Nat->Nat->Prop
 z:Nat->Nat->Prop
def M.le(m m':M):Prop:=(∀b c,m.b b c->m'.b b c)/\∀c z,m.z c z->m'.z c z
mutual def VR(mu:M):V->Value->Prop|.int k n,v=>v=.int (pe k) (toI (pe k) n)/\n<fq (pe k)/\k<8|.bool b,v=>v=.bool b|.str l n,v=>v=.string ⟨(aD l n).toArray⟩/\n<256^l|.ptr b o,v=>∃c,v=.pointer (some ⟨c,o,none⟩)/\mu.b b c|.py,v=>v=.pointer none|.slice b o l cp sz,v=>∃c cap o' sp,v=.slice (some ⟨c,o',sp⟩) l cap/\mu.b b c/\l<=cap/\((∀q,cp=q+1->cap=q)/\(cp=0->cap=0\/(mu.z c (o'+cap*sz)/\cap<9223372036854775808)))/\(o'=o/\sp=none\/cap=0)|.aC,v=>v=.slice none 0 0|.map b,v=>∃c,v=.map (some c)/\mu.b b c|.ve,v=>v=.map none|.func f l,v=>∃cs,v=.func (.func (f/2)) (if f%2=0then#[]else cs) (if f%2=0then cs else#[])/\bZ mu l cs.toList|.sU b,v=>∃c,v=.func (.yield c) #[] #[]/\mu.b b c|.rf,v=>v=.nilFunc|.iface t x,v=>∃y,v=.iface t y/\VR mu x y|.Fy,v=>v=.nilIface|.agg l,v=>∃cs,v=.agg cs/\bZ mu l cs.toList|.cG l,v=>∃cs,v=.tuple cs/\bZ mu l cs.toList def bZ(mu:M):List V->List Value->Prop|[],cs=>cs=[]|v::l,cs=>∃c r,cs=c::r/\VR mu v c/\bZ mu l r end
mutual theorem VR.mono{mu mu':M}(h:mu.le mu'):∀(v:V)(c:Value),VR mu v c->VR mu' v c|.int ..,_,hv=>by simpa only[VR]using hv|.bool _,_,hv=>by simpa only[VR]using hv|.str ..,_,hv=>by simpa only[VR]using hv|.ptr ..,_,hv=>by simp only[VR]at hv⊢;obtain⟨c,h1,h2⟩:=hv;exact⟨c,h1,h.1 _ _ h2⟩|.py,_,hv=>by simpa only[VR]using hv|.slice ..,_,hv=>by simp only[VR]at hv⊢;obtain⟨c,cap,o',sp,h1,h2,h3,⟨h4,h5⟩,h6⟩:=hv;exact⟨c,cap,o',sp,h1,h.1 _ _ h2,h3,⟨h4,λe=>(h5 e).imp id λq=>⟨h.2 _ _ q.1,q.2⟩⟩,h6⟩|.aC,_,hv=>by simpa only[VR]using hv|.map _,_,hv=>by simp only[VR]at hv⊢;obtain⟨c,h1,h2⟩:=hv;exact⟨c,h1,h.1 _ _ h2⟩|.ve,_,hv=>by simpa only[VR]using hv|.func _ l,_,hv=>by simp only[VR]at hv⊢;obtain⟨c,h1,h2⟩:=hv;exact⟨c,h1,bZ.mono h l _ h2⟩|.sU _,_,hv=>by simp only[VR]at hv⊢;obtain⟨c,h1,h2⟩:=hv;exact⟨c,h1,h.1 _ _ h2⟩|.rf,_,hv=>by simpa only[VR]using hv|.iface _ x,_,hv=>by simp only[VR]at hv⊢;obtain⟨c,h1,h2⟩:=hv;exact⟨c,h1,VR.mono h x _ h2⟩|.Fy,_,hv=>by simpa only[VR]using hv|.agg l,_,hv=>by simp only[VR]at hv⊢;obtain⟨c,h1,h2⟩:=hv;exact⟨c,h1,bZ.mono h l _ h2⟩|.cG l,_,hv=>by simp only[VR]at hv⊢;obtain⟨c,h1,h2⟩:=hv;exact⟨c,h1,bZ.mono h l _ h2⟩theorem bZ.mono{mu mu':M}(h:mu.le mu'):∀(l:List V)(cs:List Value),bZ mu l cs->bZ mu' l cs|[],_,hv=>by simpa only[bZ]using hv|v::l,_,hv=>by simp only[bZ]at hv⊢;obtain⟨c,r,h1,h2,h3⟩:=hv;exact⟨c,r,h1,VR.mono h v _ h2,bZ.mono h l _ h3⟩end
theorem bZ.length{mu:M}:∀{l:List V}{cs:List Value},bZ mu l cs->cs.length=l.length|[],_,h=>by simp only[bZ]at h;subst h;rfl|_::l,_,h=>by simp only[bZ]at h;obtain⟨c,r,rfl,_,h2⟩:=h;simp[bZ.length h2]
theorem bZ.get{mu:M}:∀{l:List V}{cs:List Value},bZ mu l cs->∀{i:Nat}{v:V},l[i]?=some v->∃c,cs[i]?=some c/\VR mu v c|[],_,_,i,v,hi=>by simp at hi|x::l,_,h,i,v,hi=>by simp only[bZ]at h;obtain⟨c,r,rfl,h1,h2⟩:=h;cases i with|zero=>simp at hi;subst hi;exact⟨c,rfl,h1⟩|succ i=>simp only[QU]at hi⊢;exact bZ.get h2 hi
theorem bZ.pB{mu:M}:∀{l:List V}{cs:List Value},cs.length=l.length->(∀(i:Nat)(v:V)(c:Value),l[i]?=some v->cs[i]?=some c->VR mu v c)->bZ mu l cs|[],cs,hl,_=>by simp only[bZ];exact List.length_eq_zero_iff.1 (by simpa using hl)|x::l,[],hl,_=>by simp at hl|x::l,c::r,hl,h=>by simp only[bZ];exact⟨c,r,rfl,h 0 x c rfl rfl,bZ.pB (by simpa using hl) λi v c' h1 h2=>h (i+1) v c' (by simpa using h1) (by simpa using h2)⟩
theorem bZ.append{mu:M}:∀{l m:List V}{cs ds:List Value},bZ mu l cs->bZ mu m ds->bZ mu (l++m) (cs++ds)|[],_,_,_,h,h'=>by simp only[bZ]at h;subst h;simpa using h'|x::l,_,_,_,h,h'=>by simp only[bZ]at h;obtain⟨c,r,rfl,h1,h2⟩:=h;simp only[YK,bZ];exact⟨c,_,rfl,h1,bZ.append h2 h'⟩
def V.one:V->Bool|.agg _|.cG _=>false|_=>true
theorem VR.one{mu:M}{v:V}{c:Value}(h:VR mu v c)(ho:v.one=true):(∀x,c≠.agg x)/\(∀x,c≠.tuple x):=by cases v<;>simp only[VR]at h<;>simp[V.one]at ho<;>first|(subst h;constructor<;>intro x hx<;>cases hx)|(obtain⟨rfl,_⟩:=h;constructor<;>intro x hx<;>cases hx)|(obtain⟨c,rfl,_⟩:=h;constructor<;>intro x hx<;>cases hx)|(obtain⟨c,d,o,sp,rfl,_⟩:=h;constructor<;>intro x hx<;>cases hx)
inductive eB where|dead|cells(l:List V)|bytes(len n:Nat)|map(es:List (V×V))|mark|loop(st jump:Nat)(e:Env)(ps:List Slot)(assign body:RC)|view(l:List V)
def eB.alive:eB->Prop|.dead=>False|_=>True
def jz(mu:M)(l:List V)(c:Array Value)(fr:Nat×Nat):Prop:=(∀(i:Nat)(v:V),l[i]?=some v->v.one=true/\∃cv,c[i]?=some cv/\VR mu v cv)/\∀i,i<c.size->¬(fr.1<=i/\i<fr.2)
def p8{α:Type}(i:I8)(t:N8 α):α:=match t with|.mk a0 a1 a2 a3 a4 a5 a6 a7=>match i with|.i0=>a0|.i1=>a1|.i2=>a2|.i3=>a3|.i4=>a4|.i5=>a5|.i6=>a6|.i7=>a7
def af(s:Slot)(e:Env):V:=match s with|.mk a b c=>p8 c (p8 b (p8 a e))
structure TR(mu:M)(nt:Nat)(e:Env)(tmps:Array Value):Prop where
 size:tmps.size=nt
 le:nt<=512get:∀(t:Nat)(v:Value),tmps[t]?=some v->VR mu (af (bj t) e) v
 rest:∀t,nt<=t->t<512->af (bj t) e=.cG []
theorem TR.mono{mu mu':M}(h:mu.le mu'){nt:Nat}{e:Env}{tmps:Array Value}(ht:TR mu nt e tmps):TR mu' nt e tmps:=⟨ht.size,ht.le,λt v hv=>VR.mono h _ _ (ht.get t v hv),ht.rest⟩
def Xr:LoopState->Nat|.ready=>0|.busy=>1|.done=>2|.exhausted=>3
def Jo:Nat->Option Code|0=>none|1=>some .ret|n+2=>some (.exit n)
def Kd(x y:V):Prop:=(∃k a b,x=.int k a/\y=.int k b)\/∃l a m b,x=.str l a/\y=.str m b
def fB(ks:List V):Prop:=ks.Nodup/\∀x∈ks,∀y∈ks,Kd x y
def lH(ents:Array MapEntry)(clock:Nat):Prop:=(ents.toList.map (·.born)).Nodup/\∀en∈ents.toList,en.born<clock
def BR(P:Program)(mu:M):eB->Obj->Prop|.dead,_=>True|.cells l,o=>∃c e fr,o=.cells c e fr/\jz mu l c fr/\¬(fr.1<=c.size/\c.size<fr.2)|.bytes len n,o=>∃c e fr,o=.cells c e fr/\(n<256^len/\∀(i:Nat)(x:UInt8),(aD len n)[i]?=some x->c[i]?=some (Value.int .u8 (x.toNat:Int)))/\∀i,i<c.size->¬(fr.1<=i/\i<fr.2)|.map es,o=>∃(ents:Array MapEntry)(clock:Nat)(es':List (V×V)),o=.map ents clock/\es'.Perm es/\fB (es.map (·.1))/\lH ents clock/\bZ mu (es'.map (·.1)) (ents.toList.map (·.key))/\bZ mu (es'.map (·.2)) (ents.toList.map (·.val))|.mark,o=>∃x,o=.deferred x|.view l,o=>∃c e fr,o=.cells c e fr/\∀(i:Nat)(v:V),l[i]?=some v->v.one=true->(∃cv,c[i]?=some cv/\VR mu v cv)/\¬(fr.1<=i/\i<fr.2)|.loop st jump e ps asL bo,o=>∃(r:Loop)(nt fid:Nat),o=.loop r/\Xr r.state=st/\r.pending=Jo jump/\TR mu nt e r.tmps/\gZ nt r.params.toList=some ps/\RC.mk nt fid r.assign=asL/\RC.mk nt fid r.body=bo
theorem BR.mono{P:Program}{mu mu':M}(h:mu.le mu'){bl:eB}{o:Obj}(hb:BR P mu bl o):BR P mu' bl o:=by cases bl with|dead=>exact True.intro|cells l=>obtain⟨c,e,fr,h1,⟨h2,h3⟩,h4⟩:=hb;exact⟨c,e,fr,h1,⟨λi v hi=>⟨(h2 i v hi).1,(h2 i v hi).2.imp λcv hcv=>⟨hcv.1,VR.mono h _ _ hcv.2⟩⟩,h3⟩,h4⟩|bytes len n=>exact hb|map es=>obtain⟨ents,clock,es',h1,h4,h5,h6,h2,h3⟩:=hb;exact⟨ents,clock,es',h1,h4,h5,h6,bZ.mono h _ _ h2,bZ.mono h _ _ h3⟩|mark=>exact hb|view l=>obtain⟨c,e,fr,h1,h2⟩:=hb;exact⟨c,e,fr,h1,λi v hi ho=>⟨(h2 i v hi ho).1.imp λcv hcv=>⟨hcv.1,VR.mono h _ _ hcv.2⟩,(h2 i v hi ho).2⟩⟩|loop st jump e ps asL bo=>obtain⟨r,nt,fid,h1,h2,h3,h4,h5⟩:=hb;exact⟨r,nt,fid,h1,h2,h3,h4.mono h,h5⟩
inductive HT where|e|n(v:eB)(l r:HT)
noncomputable def HT.get:HT->Nat->eB:=HT.rec (motive:=λ_=>Nat->eB) (λ_=>.dead) (λv _ _ gl gr k=>Nat.rec (motive:=λ_=>eB) v (λj _=>Nat.rec (motive:=λ_=>eB) (gl (Wm j 2)) (λ_ _=>gr (Wm j 2)) (Yx j 2)) k)
noncomputable def HT.set(x:eB):HT->Nat->(HT->R)->R:=HT.rec (motive:=λ_=>Nat->(HT->R)->R) (λk c=>Nat.rec (motive:=λ_=>R) (c (.n x .e .e)) (λ_ _=>no 1) k) (λu l r sl sr k c=>Nat.rec (motive:=λ_=>R) (c (.n x l r)) (λj _=>Nat.rec (motive:=λ_=>R) (sl (Wm j 2) λl'=>c (.n u l' r)) (λ_ _=>sr (Wm j 2) λr'=>c (.n u l r')) (Yx j 2)) k)
theorem HT.uu(k:Nat):HT.get .e k=.dead:=rfl
theorem HT.EP(v:eB)(l r:HT):HT.get (.n v l r) 0=v:=rfl
theorem HT.cQ(v:eB)(l r:HT)(j:Nat):HT.get (.n v l r) (j+1)=if j%2=0then HT.get l (j/2)else HT.get r (j/2):=by show Nat.rec (motive:=λ_=>eB) (HT.get l (j/2)) (λ_ _=>HT.get r (j/2)) (j%2)=_;rcases(by omega:j%2=0\/j%2=1)with h|h<;>rw[h]<;>rfl
theorem HT.JG{x:eB}:∀(t:HT)(k:Nat)(c:HT->R),t.set x k c=1->∃t',c t'=1/\t'.get k=x/\∀j,j≠k->t'.get j=t.get j:=by intro t;induction t with
 |e=>intro k c h;cases k with
  |zero=>refine⟨_,h,rfl,λj hj=>?_⟩;cases j with|zero=>exact absurd rfl hj|succ j=>rw[cQ,uu,uu];simp[uu]
  |succ k=>exact(aw h).elim
 |n u l r ihl ihr=>intro k c h;cases k with
  |zero=>refine⟨_,h,rfl,λj hj=>?_⟩;cases j with|zero=>exact absurd rfl hj|succ j=>rw[cQ,cQ]
  |succ k=>
   have h':Nat.rec (motive:=λ_=>R) (l.set x (k/2) λl'=>c (.n u l' r)) (λ_ _=>r.set x (k/2) λr'=>c (.n u l r')) (k%2)=1:=h;rcases(by omega:k%2=0\/k%2=1)with hk|hk;.rw[hk]at h';obtain⟨t',h1,h2,h3⟩:=ihl _ _ h';refine⟨_,h1,by rw[cQ,if_pos hk];exact h2,λj hj=>?_⟩;cases j with|zero=>rfl|succ j=>
     rw[cQ,cQ];split;.exact h3 _ (by omega)
     .rfl
   .rw[hk]at h';obtain⟨t',h1,h2,h3⟩:=ihr _ _ h';refine⟨_,h1,by rw[cQ,if_neg (by omega)];exact h2,λj hj=>?_⟩;cases j with|zero=>rfl|succ j=>
     rw[cQ,cQ];split;.rfl
     .exact h3 _ (by omega)
inductive Heap where|mk(n bF:Nat)(t:HT)
noncomputable def Heap.n(h:Heap):Nat:=Heap.rec (λn _ _=>n) h
noncomputable def Heap.bF(h:Heap):Nat:=Heap.rec (λ_ w _=>w) h
noncomputable def Heap.t(h:Heap):HT:=Heap.rec (λ_ _ t=>t) h
noncomputable def Heap.get(h:Heap)(b:Nat):eB:=h.t.get b
def mu(rho:Nat->Option Nat)(H:Heap)(w:World):M:=⟨λb c=>b<H.n/\((H.get b).alive->rho b=some c),λc z=>∃cs e fr,w.heap[c]?=some (.cells cs e fr)/\cs.size=z⟩
def GB(_:Nat):Prop:=False
def GQ(_:World):Prop:=True
theorem vt{w w':World}(_:GQ w)(_:∀c,GB c->w'.heap[c]?=w.heap[c]?):GQ w':=trivial
theorem Gno{w:World}:GQ w/\∀c,GB c->c<w.heap.size:=⟨trivial,λ_ h=>h.elim⟩
def Gl(rho:Nat->Option Nat)(w:World):Prop:=GQ w/\(∀c,GB c->c<w.heap.size)/\∀b c,rho b=some c->¬GB c
structure PR(P:Program)(base:Nat)(w0:World)(rho:Nat->Option Nat)(H:Heap)(w:World):Prop where
 below:Below base w0 w
 cS:base<=w.heap.size
 wn:H.bF<=H.n
 jM:∀b c,rho b=some c->b<H.n/\base<=c/\c<w.heap.size/\(H.get b).alive
 inj:∀b b' c,rho b=some c->rho b'=some c->b=b'
 cV:∀b c,rho b=some c->∃o,w.heap[c]?=some o/\BR P (mu rho H w) (H.get b) o
 out:∀b,H.n<=b->H.get b=.dead
 gl:Gl rho w
structure Ext(rho:Nat->Option Nat)(H:Heap)(w:World)(rho':Nat->Option Nat)(H':Heap)(w':World):Prop where
 n:H.n<=H'.n
 bF:H'.bF<=H.bF
 size:w.heap.size<=w'.heap.size
 cm:∀b,b<H.n->b<H'.bF->H'.get b=H.get b/\rho' b=rho b
 old:∀b c,b<H.n->rho' b=some c->rho b=some c
 live:∀b c,rho b=some c->(H'.get b).alive->rho' b=some c
 qF:∀b,b<H.n->(H'.get b).alive->(H.get b).alive
 new:∀b c,H.n<=b->rho' b=some c->w.heap.size<=c\/∃b0,rho b0=some c/\H'.bF<=b0
 fr:∀c,c<w.heap.size->(∀b,rho b=some c->b<H'.bF)->w'.heap[c]?=w.heap[c]?marks:∀b,H.get b=.mark->H'.get b=.mark/\rho' b=rho b/\∀c,rho b=some c->w'.heap[c]?=w.heap[c]?rows:∀(c:Nat)(cs:Array Value)(e:TypeId)(fr:Nat×Nat),w.heap[c]?=some (.cells cs e fr)->∃cs' e' fr',w'.heap[c]?=some (.cells cs' e' fr')/\cs'.size=cs.size
 loops:∀(c:Nat)(r:Loop),w.heap[c]?=some (.loop r)->∃r',w'.heap[c]?=some (.loop r')
theorem Ext.refl{rho:Nat->Option Nat}{H:Heap}{w:World}(hd:∀b c,rho b=some c->b<H.n):Ext rho H w rho H w:=⟨YC _,YC _,YC _,λ_ _ _=>⟨rfl,rfl⟩,λ_ _ _ h=>h,λ_ _ h _=>h,λ_ _ h=>h,λb c hb h=>absurd (hd b c h) (by omega),λ_ _ _=>rfl,λb h=>⟨h,rfl,λ_ _=>rfl⟩,λc cs e fr h=>⟨cs,e,fr,h,rfl⟩,λc r h=>⟨r,h⟩⟩
theorem Gl.step{rho rho':Nat->Option Nat}{H H':Heap}{w w':World}(h:Gl rho w)(e:Ext rho H w rho' H' w'):Gl rho' w':=by
 obtain⟨h1,h2,h3⟩:=h;refine⟨vt h1 λc hc=>e.fr c (h2 c hc) λb hb=>absurd hc (h3 b c hb),λc hc=>YF (h2 c hc) e.size,λb c hb hc=>?_⟩;by_cases hbn:b<H.n;.exact h3 b c (e.old b c hbn hb) hc
 .rcases e.new b c (by omega) hb with h|⟨b0,h4,_⟩;.have:=h2 c hc;omega
  .exact h3 b0 c h4 hc
theorem Ext.mu{rho rho':Nat->Option Nat}{H H':Heap}{w w':World}(h:Ext rho H w rho' H' w'):(mu rho H w).le (mu rho' H' w'):=⟨λb c⟨h1,h2⟩=>⟨YF h1 h.n,λha=>h.live _ _ (h2 (h.qF b h1 ha)) ha⟩,λc z⟨cs,e,fr,h1,h2⟩=>let⟨cs',e',fr',h3,h4⟩:=h.rows c cs e fr h1;⟨cs',e',fr',h3,h4.trans h2⟩⟩
theorem Ext.trans{r r1 r2:Nat->Option Nat}{H H1 H2:Heap}{w w1 w2:World}(hd:∀b c,r b=some c->b<H.n)(h:Ext r H w r1 H1 w1)(k:Ext r1 H1 w1 r2 H2 w2):Ext r H w r2 H2 w2 where
 n:=Ys h.n k.n;bF:=Ys k.bF h.bF;size:=Ys h.size k.size;cm b hb hw:=by obtain⟨a1,a2⟩:=h.cm b hb (YF hw k.bF);obtain⟨b1,b2⟩:=k.cm b (YF hb h.n) hw;exact⟨b1.trans a1,b2.trans a2⟩
 old b c hb hr:=h.old b c hb (k.old b c (YF hb h.n) hr);live b c hr ha:=by have hb:b<H1.n:=YF (hd b c hr) h.n;exact k.live b c (h.live b c hr (k.qF b hb ha)) ha
 qF b hb ha:=h.qF b hb (k.qF b (YF hb h.n) ha);new b c hb hr:=by
  by_cases hb1:b<H1.n
  .rcases h.new b c hb (k.old b c hb1 hr)with h'|⟨b0,h1,h2⟩;.exact YH h'
   .exact YE ⟨b0,h1,Ys k.bF h2⟩
  .rcases k.new b c (by omega) hr with h'|⟨b0,h1,h2⟩;.exact YH (Ys h.size h')
   .by_cases hb0:b0<H.n;.exact YE ⟨b0,h.old b0 c hb0 h1,h2⟩
    .rcases h.new b0 c (by omega) h1 with h'|⟨b1,h3,h4⟩;.exact YH h'
     .exact YE ⟨b1,h3,Ys k.bF h4⟩
 fr c hc hb:=by
  refine(k.fr c (YF hc h.size) λb hr=>?_).trans (h.fr c hc λb hr=>YF (hb b hr) k.bF);by_cases hb0:b<H.n;.exact hb b (h.old b c hb0 hr)
  .rcases h.new b c (by omega) hr with h'|⟨b1,h3,h4⟩;.omega
   .have:=hb b1 h3;have:=k.bF;omega
 rows c cs e fr hc:=by obtain⟨cs',e',fr',h1,h2⟩:=h.rows c cs e fr hc;obtain⟨cs2,e2,fr2,h3,h4⟩:=k.rows c cs' e' fr' h1;exact⟨cs2,e2,fr2,h3,h4.trans h2⟩
 loops c r hc:=by obtain⟨r',h1⟩:=h.loops c r hc;exact k.loops c r' h1
 marks b hb:=by obtain⟨a1,a2,a3⟩:=h.marks b hb;obtain⟨b1,b2,b3⟩:=k.marks b a1;exact⟨b1,b2.trans a2,λc hc=>(b3 c (a2.trans hc)).trans (a3 c hc)⟩
section
variable{P:Program}{base:Nat}{w0 w w':World}{rho:Nat->Option Nat}{H H':Heap}
theorem PR.lt(h:PR P base w0 rho H w):∀b c,rho b=some c->b<H.n:=λb c hr=>(h.jM b c hr).1
theorem PR.drawn(h:PR P base w0 rho H w)(n:Nat):PR P base w0 rho H {w with drawn:=n}where below:=⟨h.below.os,h.below.tape,h.below.output,h.below.size,h.below.block⟩;cS:=h.cS;wn:=h.wn;jM:=h.jM;inj:=h.inj;cV:=h.cV;out:=h.out;gl:=⟨vt h.gl.1 λ_ _=>rfl,h.gl.2⟩
theorem oz(h:Below base w0 w)(hos:w'.os=w.os)(htape:w'.tape=w.tape)(hout:w'.output=w.output)(hsz:w.heap.size<=w'.heap.size)(hb:∀k,k<base->w'.heap[k]?=w.heap[k]?):Below base w0 w':=⟨hos.trans h.os,htape.trans h.tape,hout.trans h.output,Ys h.size hsz,λk hk=>(hb k hk).trans (h.block k hk)⟩
theorem PR.Jv(h:PR P base w0 rho H w)(hn:H'.n=H.n)(ht:∀b,H'.get b=H.get b)(hw:H'.bF<=H'.n):PR P base w0 rho H' w:=by have hm:(mu rho H w).le (mu rho H' w):=⟨λb c hm=>⟨by rw[hn];exact hm.1,by rw[ht];exact hm.2⟩,λ_ _ h=>h⟩;exact⟨h.below,h.cS,hw,λb c hr=>by rw[hn,ht];exact h.jM b c hr,h.inj,λb c hr=>by obtain⟨o,h1,h2⟩:=h.cV b c hr;rw[ht];exact⟨o,h1,h2.mono hm⟩,λb hb=>by rw[ht];exact h.out b (by omega),h.gl⟩
structure Hp(w w':World):Prop where
 os:w'.os=w.os
 tape:w'.tape=w.tape
 output:w'.output=w.output
theorem PR.alloc(h:PR P base w0 rho H w){bl:eB}{o:Obj}(hn:H'.n=H.n+1)(hw:H'.bF=H.bF)(hg:H'.get H.n=bl)(ho:∀j,j≠H.n->H'.get j=H.get j)(ha:bl.alive)(hs:Hp w w')(hsz:w'.heap.size=w.heap.size+1)(hnew:w'.heap[w.heap.size]?=some o)(hold:∀j,j<w.heap.size->w'.heap[j]?=w.heap[j]?)(hb:BR P (mu rho H w) bl o):PR P base w0 (λb=>if b=H.n then some w.heap.size else rho b) H' w'/\Ext rho H w (λb=>if b=H.n then some w.heap.size else rho b) H' w':=by
 have hlt:=h.lt;have hE:Ext rho H w (λb=>if b=H.n then some w.heap.size else rho b) H' w':=by
  refine⟨by omega,by omega,by omega,λb hb _=>⟨ho b (by omega),by simp[QZ hb]⟩,λb c hb hr=>?_,λb c hr _=>?_,λb hb hal=>?_,λb c hb hr=>?_,λc hc _=>hold c hc,λb hm=>?_,λc cs e fr hc=>⟨cs,e,fr,(hold c (YO.1 hc).1).trans hc,rfl⟩,λc r hc=>⟨r,(hold c (YO.1 hc).1).trans hc⟩⟩;.simpa[QZ hb]using hr
  .have:=hlt b c hr;simp[QZ this,hr]
  .rwa[ho b (by omega)]at hal
  .by_cases hb':b=H.n;.simp[hb']at hr;omega
   .simp[hb']at hr;have:=hlt b c hr;omega
  .have hb':b≠H.n:=λe=>by subst e;rw[h.out H.n (YC _)]at hm;cases hm
   exact⟨(ho b hb').trans hm,by simp[hb'],λc hc=>hold c (h.jM b c hc).2.2.1⟩
 refine⟨⟨oz h.below hs.os hs.tape hs.output (by omega) λk hk=>hold k (by have:=h.cS;omega),by have:=h.cS;omega,by have:=h.wn;omega,λb c hr=>?_,λb b' c hr hr'=>?_,λb c hr=>?_,λb hb'=>?_,h.gl.step hE⟩,hE⟩
 .by_cases hb':b=H.n;.subst hb';simp at hr;subst hr;exact⟨by omega,h.cS,by omega,by rw[hg];exact ha⟩
  .simp[hb']at hr;obtain⟨h1,h2,h3,h4⟩:=h.jM b c hr;exact⟨by omega,h2,by omega,by rw[ho b hb'];exact h4⟩
 .by_cases h1:b=H.n<;>by_cases h2:b'=H.n<;>simp[h1,h2]at hr hr';.omega
  .have:=(h.jM b' c hr').2.2.1;omega
  .have:=(h.jM b c hr).2.2.1;omega
  .exact h.inj b b' c hr hr'
 .by_cases hb':b=H.n;.subst hb';simp at hr;subst hr;exact⟨o,hnew,by rw[hg];exact hb.mono hE.mu⟩
  .simp[hb']at hr;obtain⟨o',h1,h2⟩:=h.cV b c hr;refine⟨o',(hold c (h.jM b c hr).2.2.1).trans h1,?_⟩;rw[ho b hb'];exact h2.mono hE.mu
 .rw[ho b (by omega)];exact h.out b (by omega)
theorem PR.write(h:PR P base w0 rho H w){b c:Nat}{bl:eB}{o:Obj}(hr:rho b=some c)(hnm:H.get b≠.mark)(hn:H'.n=H.n)(hw:H'.bF<=H.bF)(hwb:H'.bF<=b)(hg:H'.get b=bl)(ho:∀j,j≠b->H'.get j=H.get j)(ha:bl.alive)(hs:Hp w w')(hsz:w'.heap.size=w.heap.size)(hnew:w'.heap[c]?=some o)(hold:∀j,j≠c->w'.heap[j]?=w.heap[j]?)(hb:BR P (mu rho H w) bl o)(hz:∀cs e fr,w.heap[c]?=some (.cells cs e fr)->∃cs' e' fr',o=.cells cs' e' fr'/\cs'.size=cs.size)(hlp:∀r,w.heap[c]?=some (.loop r)->∃r',o=.loop r'):PR P base w0 rho H' w'/\Ext rho H w rho H' w':=by
 have hlt:=h.lt;have hd:=h.jM b c hr;have hE:Ext rho H w rho H' w':=by
  refine⟨by omega,hw,by omega,λj hj hjw=>⟨ho j (by omega),rfl⟩,λ_ _ _ h=>h,λ_ _ h _=>h,λj hj hal=>?_,λj c' hj hr'=>?_,λj hj hjw=>hold j λe=>?_,λj hm=>⟨(ho j λe=>by subst e;exact hnm hm).trans hm,rfl,λc1 hc1=>hold c1 λe=>hnm (by subst e;rw[<-h.inj j b c1 hc1 hr];exact hm)⟩,λj cs e fr hj=>?_,λj r hj=>?_⟩
  .by_cases hjb:j=b;.subst hjb;exact hd.2.2.2
   .rwa[ho j hjb]at hal
  .have:=hlt j c' hr';omega
  .subst e;have:=hjw b hr;omega
  .by_cases hjc:j=c;.subst hjc;obtain⟨cs',e',fr',h1,h2⟩:=hz cs e fr hj;exact⟨cs',e',fr',by rw[hnew,h1],h2⟩
   .exact⟨cs,e,fr,(hold j hjc).trans hj,rfl⟩
  .by_cases hjc:j=c;.subst hjc;obtain⟨r',h1⟩:=hlp r hj;exact⟨r',by rw[hnew,h1]⟩
   .exact⟨r,(hold j hjc).trans hj⟩
 refine⟨⟨oz h.below hs.os hs.tape hs.output (by omega) λk hk=>hold k (by omega),by have:=h.cS;omega,by have:=h.wn;omega,λj c' hr'=>?_,h.inj,λj c' hr'=>?_,λj hj=>?_,h.gl.step hE⟩,hE⟩
 .obtain⟨h1,h2,h3,h4⟩:=h.jM j c' hr';refine⟨by omega,h2,by omega,?_⟩;by_cases hjb:j=b;.subst hjb;rw[hg];exact ha
  .rw[ho j hjb];exact h4
 .by_cases hjb:j=b;.subst hjb;rw[hr]at hr';cases hr';exact⟨o,hnew,by rw[hg];exact hb.mono hE.mu⟩
  .obtain⟨o',h1,h2⟩:=h.cV j c' hr';refine⟨o',(hold c' λe=>hjb (h.inj j b c' hr' (e▸hr))).trans h1,?_⟩;rw[ho j hjb];exact h2.mono hE.mu
 .rw[ho j (by omega)];exact h.out j (by omega)
theorem PR.move(h:PR P base w0 rho H w){b c c':Nat}{bl:eB}{o:Obj}(hr:rho b=some c)(hnm:H.get b≠.mark)(hn:H'.n=H.n+1)(hw:H'.bF<=H.bF)(hwb:H'.bF<=b)(hd:H'.get b=.dead)(hg:H'.get H.n=bl)(ho:∀j,j≠b->j≠H.n->H'.get j=H.get j)(ha:bl.alive)(hs:Hp w w')(hsz:w.heap.size<=w'.heap.size)(hc':c'=c\/w.heap.size<=c')(hc'':c'<w'.heap.size)(hnew:w'.heap[c']?=some o)(hold:∀j,j<w.heap.size->j≠c->w'.heap[j]?=w.heap[j]?)(hb:BR P (mu rho H w) bl o)(hz:∀cs e fr,w.heap[c]?=some (.cells cs e fr)->∃cs' e' fr',w'.heap[c]?=some (.cells cs' e' fr')/\cs'.size=cs.size)(hlp:∀r,w.heap[c]?=some (.loop r)->False):PR P base w0 (λj=>if j=H.n then some c' else if j=b then none else rho j) H' w'/\Ext rho H w (λj=>if j=H.n then some c' else if j=b then none else rho j) H' w':=by
 have hlt:=h.lt;have hdm:=h.jM b c hr;have hbn:b≠H.n:=by omega
 have hE:Ext rho H w (λj=>if j=H.n then some c' else if j=b then none else rho j) H' w':=by
  refine⟨by omega,hw,hsz,λj hj hjw=>⟨ho j (by omega) (by omega),(λ(hjb:j≠b)=>by simp[QZ hj,hjb]) (by omega)⟩,λj c1 hj h1=>?_,λj c1 h1 hal=>?_,λj hj hal=>?_,λj c1 hj h1=>?_,λj hj hjw=>hold j hj λe=>?_,λj hm=>?_,λj cs e fr hj=>?_,λj r hj=>⟨r,(hold j (YO.1 hj).1 λe=>hlp r (e▸hj)).trans hj⟩⟩
  .simp only[QZ hj,if_false]at h1;split at h1;.cases h1
   .exact h1
  .have h2:=hlt j c1 h1;by_cases hjb:j=b;.subst hjb;rw[hd]at hal;exact hal.elim
   .simp[QZ h2,hjb,h1]
  .by_cases hjb:j=b;.subst hjb;exact hdm.2.2.2
   .rwa[ho j hjb (by omega)]at hal
  .by_cases hjn:j=H.n
   .simp[hjn]at h1;subst h1;rcases hc' with e|e;.exact YE ⟨b,e▸hr,hwb⟩
    .exact YH e
   .by_cases hjb:j=b;.omega
    .simp[hjn,hjb]at h1;have:=hlt j c1 h1;omega
  .subst e;have:=hjw b hr;omega
  .have h1:j≠H.n:=λe=>by subst e;rw[h.out H.n (YC _)]at hm;cases hm
   have h2:j≠b:=λe=>by subst e;exact hnm hm
   exact⟨(ho j h2 h1).trans hm,by simp[h1,h2],λc1 hc1=>hold c1 (h.jM j c1 hc1).2.2.1 λe=>h2 (h.inj j b c1 hc1 (e▸hr))⟩
  .by_cases hjc:j=c;.subst hjc;exact hz cs e fr hj
   .exact⟨cs,e,fr,(hold j (YO.1 hj).1 hjc).trans hj,rfl⟩
 refine⟨⟨oz h.below hs.os hs.tape hs.output hsz λk hk=>hold k (by have:=h.cS;omega) (by omega),by have:=h.cS;omega,by have:=h.wn;omega,λj c1 hr'=>?_,λj j' c1 hr1 hr2=>?_,λj c1 hr'=>?_,λj hj=>?_,h.gl.step hE⟩,hE⟩
 .by_cases hjn:j=H.n
  .simp[hjn]at hr';subst hr';subst hjn;refine⟨by omega,?_,hc'',by rw[hg];exact ha⟩;rcases hc' with e|e;.omega
   .have:=h.cS;omega
  .by_cases hjb:j=b;.simp[hjb,hbn]at hr'
   .simp[hjn,hjb]at hr';obtain⟨h1,h2,h3,h4⟩:=h.jM j c1 hr';exact⟨by omega,h2,by omega,by rw[ho j hjb hjn];exact h4⟩
 .have key:∀j,j≠H.n->j≠b->rho j=some c'->False:=by
   intro j _ hj2 hj3;rcases hc' with e|e;.subst e;exact hj2 (h.inj j b c' hj3 hr)
   .have:=(h.jM j c' hj3).2.2.1;omega
  by_cases h1:j=H.n<;>by_cases h2:j'=H.n;.omega
  .by_cases h3:j'=b;.simp[h3,hbn]at hr2
   .simp[h2,h3]at hr2;simp[h1]at hr1;subst hr1;exact(key j' h2 h3 hr2).elim
  .by_cases h3:j=b;.simp[h3,hbn]at hr1
   .simp[h1,h3]at hr1;simp[h2]at hr2;subst hr2;exact(key j h1 h3 hr1).elim
  .by_cases h3:j=b;.simp[h3,hbn]at hr1
   .by_cases h4:j'=b;.simp[h4,hbn]at hr2
    .simp[h1,h3]at hr1;simp[h2,h4]at hr2;exact h.inj j j' c1 hr1 hr2
 .by_cases hjn:j=H.n;.simp[hjn]at hr';subst hr';subst hjn;exact⟨o,hnew,by rw[hg];exact hb.mono hE.mu⟩
  .by_cases hjb:j=b;.simp[hjb,hbn]at hr'
   .simp[hjn,hjb]at hr';obtain⟨o',h1,h2⟩:=h.cV j c1 hr';refine⟨o',(hold c1 (h.jM j c1 hr').2.2.1 λe=>hjb (h.inj j b c1 hr' (e▸hr))).trans h1,?_⟩;rw[ho j hjb hjn];exact h2.mono hE.mu
 .rw[ho j (by omega) (by omega)];exact h.out j (by omega)
end
end Go.Ev
end
section
set_option maxRecDepth 100000
namespace Go.Ev
noncomputable def g80{α:Type}(t:N8 α)(k:α->R):R:=N8.rec (motive:=λ_=>R) (λa0 a1 a2 a3 a4 a5 a6 a7=>k a0) t
noncomputable def u80{α:Type}(t:N8 α)(f:α->(α->R)->R)(k:N8 α->R):R:=N8.rec (motive:=λ_=>R) (λa0 a1 a2 a3 a4 a5 a6 a7=>f a0 λx=>k (N8.mk x a1 a2 a3 a4 a5 a6 a7)) t
noncomputable def g81{α:Type}(t:N8 α)(k:α->R):R:=N8.rec (motive:=λ_=>R) (λa0 a1 a2 a3 a4 a5 a6 a7=>k a1) t
noncomputable def u81{α:Type}(t:N8 α)(f:α->(α->R)->R)(k:N8 α->R):R:=N8.rec (motive:=λ_=>R) (λa0 a1 a2 a3 a4 a5 a6 a7=>f a1 λx=>k (N8.mk a0 x a2 a3 a4 a5 a6 a7)) t
noncomputable def g82{α:Type}(t:N8 α)(k:α->R):R:=N8.rec (motive:=λ_=>R) (λa0 a1 a2 a3 a4 a5 a6 a7=>k a2) t
noncomputable def u82{α:Type}(t:N8 α)(f:α->(α->R)->R)(k:N8 α->R):R:=N8.rec (motive:=λ_=>R) (λa0 a1 a2 a3 a4 a5 a6 a7=>f a2 λx=>k (N8.mk a0 a1 x a3 a4 a5 a6 a7)) t
noncomputable def g83{α:Type}(t:N8 α)(k:α->R):R:=N8.rec (motive:=λ_=>R) (λa0 a1 a2 a3 a4 a5 a6 a7=>k a3) t
noncomputable def u83{α:Type}(t:N8 α)(f:α->(α->R)->R)(k:N8 α->R):R:=N8.rec (motive:=λ_=>R) (λa0 a1 a2 a3 a4 a5 a6 a7=>f a3 λx=>k (N8.mk a0 a1 a2 x a4 a5 a6 a7)) t
noncomputable def g84{α:Type}(t:N8 α)(k:α->R):R:=N8.rec (motive:=λ_=>R) (λa0 a1 a2 a3 a4 a5 a6 a7=>k a4) t
noncomputable def u84{α:Type}(t:N8 α)(f:α->(α->R)->R)(k:N8 α->R):R:=N8.rec (motive:=λ_=>R) (λa0 a1 a2 a3 a4 a5 a6 a7=>f a4 λx=>k (N8.mk a0 a1 a2 a3 x a5 a6 a7)) t
noncomputable def g85{α:Type}(t:N8 α)(k:α->R):R:=N8.rec (motive:=λ_=>R) (λa0 a1 a2 a3 a4 a5 a6 a7=>k a5) t
noncomputable def u85{α:Type}(t:N8 α)(f:α->(α->R)->R)(k:N8 α->R):R:=N8.rec (motive:=λ_=>R) (λa0 a1 a2 a3 a4 a5 a6 a7=>f a5 λx=>k (N8.mk a0 a1 a2 a3 a4 x a6 a7)) t
noncomputable def g86{α:Type}(t:N8 α)(k:α->R):R:=N8.rec (motive:=λ_=>R) (λa0 a1 a2 a3 a4 a5 a6 a7=>k a6) t
noncomputable def u86{α:Type}(t:N8 α)(f:α->(α->R)->R)(k:N8 α->R):R:=N8.rec (motive:=λ_=>R) (λa0 a1 a2 a3 a4 a5 a6 a7=>f a6 λx=>k (N8.mk a0 a1 a2 a3 a4 a5 x a7)) t
noncomputable def g87{α:Type}(t:N8 α)(k:α->R):R:=N8.rec (motive:=λ_=>R) (λa0 a1 a2 a3 a4 a5 a6 a7=>k a7) t
noncomputable def u87{α:Type}(t:N8 α)(f:α->(α->R)->R)(k:N8 α->R):R:=N8.rec (motive:=λ_=>R) (λa0 a1 a2 a3 a4 a5 a6 a7=>f a7 λx=>k (N8.mk a0 a1 a2 a3 a4 a5 a6 x)) t
noncomputable def g8{α:Type}(i:I8):N8 α->(α->R)->R:=I8.rec (motive:=λ_=>N8 α->(α->R)->R) g80 g81 g82 g83 g84 g85 g86 g87 i
noncomputable def u8{α:Type}(i:I8):N8 α->(α->(α->R)->R)->(N8 α->R)->R:=I8.rec (motive:=λ_=>N8 α->(α->(α->R)->R)->(N8 α->R)->R) u80 u81 u82 u83 u84 u85 u86 u87 i
noncomputable def jU(s:Slot)(e:Env)(k:V->R):R:=Slot.rec (motive:=λ_=>R) (λa b c=>g8 a e λt=>g8 b t λu=>g8 c u k) s
noncomputable def JF(s:Slot)(v:V)(e:Env)(k:Env->R):R:=Slot.rec (motive:=λ_=>R) (λa b c=>u8 a e (λt k1=>u8 b t (λu k2=>u8 c u (λ_ k3=>k3 v) k2) k1) k) s
noncomputable def aJ(a:Arg)(e:Env)(k:V->R):R:=Arg.rec (motive:=λ_=>R) (λs=>jU s e k) (λv=>k v) a
noncomputable def oT(l:List Arg)(e:Env):(List V->R)->R:=List.rec (motive:=λ_=>(List V->R)->R) (λk=>k []) (λa _ ih k=>aJ a e λv=>ih λr=>k (v::r)) l
noncomputable def av(n:Nat)(k:Nat->R):R:=Nat.rec (motive:=λ_=>R) (k Nat.zero) (λm _=>k (WN m)) n
noncomputable def aH(c:Bool)(t f:R):R:=Bool.rec (motive:=λ_=>R) f t c
noncomputable def cD(id:Nat)(x:V)(k:Nat->Nat->R):R:=V.rec (motive_1:=λ_=>R) (motive_2:=λ_=>R) (k) (λ_=>no 0) (λ_ _=>no 0) (λ_ _=>no 0) (no 0) (λ_ _ _ _ _=>no 0) (no 0) (λ_=>no 0) (no 0) (λ_ _ _=>no 0) (λ_=>no 0) (no 0) (λ_ _ _=>no 0) (no 0) (λ_ _=>no 0) (λ_ _=>no 0) (0:R) (λ_ _ _ _=>(0:R)) x
noncomputable def eO(id:Nat)(x:V)(k:Bool->R):R:=V.rec (motive_1:=λ_=>R) (motive_2:=λ_=>R) (λ_ _=>no 0) (k) (λ_ _=>no 0) (λ_ _=>no 0) (no 0) (λ_ _ _ _ _=>no 0) (no 0) (λ_=>no 0) (no 0) (λ_ _ _=>no 0) (λ_=>no 0) (no 0) (λ_ _ _=>no 0) (no 0) (λ_ _=>no 0) (λ_ _=>no 0) (0:R) (λ_ _ _ _=>(0:R)) x
noncomputable def dZ(id:Nat)(x:V)(k:Nat->Nat->R):R:=V.rec (motive_1:=λ_=>R) (motive_2:=λ_=>R) (λ_ _=>no 0) (λ_=>no 0) (k) (λ_ _=>no 0) (no 0) (λ_ _ _ _ _=>no 0) (no 0) (λ_=>no 0) (no 0) (λ_ _ _=>no 0) (λ_=>no 0) (no 0) (λ_ _ _=>no 0) (no 0) (λ_ _=>no 0) (λ_ _=>no 0) (0:R) (λ_ _ _ _=>(0:R)) x
noncomputable def ej(id:Nat)(x:V)(k:Nat->Nat->R):R:=V.rec (motive_1:=λ_=>R) (motive_2:=λ_=>R) (λ_ _=>no 0) (λ_=>no 0) (λ_ _=>no 0) (k) (no 0) (λ_ _ _ _ _=>no 0) (no 0) (λ_=>no 0) (no 0) (λ_ _ _=>no 0) (λ_=>no 0) (no 0) (λ_ _ _=>no 0) (no 0) (λ_ _=>no 0) (λ_ _=>no 0) (0:R) (λ_ _ _ _=>(0:R)) x
noncomputable def lS(id:Nat)(x:V)(k:Nat->Nat->Nat->Nat->Nat->R):R:=V.rec (motive_1:=λ_=>R) (motive_2:=λ_=>R) (λ_ _=>no 0) (λ_=>no 0) (λ_ _=>no 0) (λ_ _=>no 0) (no 0) (k) (no 0) (λ_=>no 0) (no 0) (λ_ _ _=>no 0) (λ_=>no 0) (no 0) (λ_ _ _=>no 0) (no 0) (λ_ _=>no 0) (λ_ _=>no 0) (0:R) (λ_ _ _ _=>(0:R)) x
noncomputable def bD(id:Nat)(x:V)(k:Nat->Nat->Nat->Nat->Nat->R)(z:R):R:=V.rec (motive_1:=λ_=>R) (motive_2:=λ_=>R) (λ_ _=>no 0) (λ_=>no 0) (λ_ _=>no 0) (λ_ _=>no 0) (no 0) (k) (z) (λ_=>no 0) (no 0) (λ_ _ _=>no 0) (λ_=>no 0) (no 0) (λ_ _ _=>no 0) (no 0) (λ_ _=>no 0) (λ_ _=>no 0) (0:R) (λ_ _ _ _=>(0:R)) x
noncomputable def GP(id:Nat)(x:V)(k:Nat->R):R:=V.rec (motive_1:=λ_=>R) (motive_2:=λ_=>R) (λ_ _=>no 0) (λ_=>no 0) (λ_ _=>no 0) (λ_ _=>no 0) (no 0) (λ_ _ _ _ _=>no 0) (no 0) (k) (no 0) (λ_ _ _=>no 0) (λ_=>no 0) (no 0) (λ_ _ _=>no 0) (no 0) (λ_ _=>no 0) (λ_ _=>no 0) (0:R) (λ_ _ _ _=>(0:R)) x
noncomputable def qI(id:Nat)(x:V)(k:Nat->R)(z:R):R:=V.rec (motive_1:=λ_=>R) (motive_2:=λ_=>R) (λ_ _=>no 0) (λ_=>no 0) (λ_ _=>no 0) (λ_ _=>no 0) (no 0) (λ_ _ _ _ _=>no 0) (no 0) (k) (z) (λ_ _ _=>no 0) (λ_=>no 0) (no 0) (λ_ _ _=>no 0) (no 0) (λ_ _=>no 0) (λ_ _=>no 0) (0:R) (λ_ _ _ _=>(0:R)) x
noncomputable def yC(id:Nat)(x:V)(k:Nat->List V->R):R:=V.rec (motive_1:=λ_=>R) (motive_2:=λ_=>R) (λ_ _=>no 0) (λ_=>no 0) (λ_ _=>no 0) (λ_ _=>no 0) (no 0) (λ_ _ _ _ _=>no 0) (no 0) (λ_=>no 0) (no 0) (λf l _=>k f l) (λ_=>no 0) (no 0) (λ_ _ _=>no 0) (no 0) (λ_ _=>no 0) (λ_ _=>no 0) (0:R) (λ_ _ _ _=>(0:R)) x
noncomputable def iT(id:Nat)(x:V)(k:List V->R):R:=V.rec (motive_1:=λ_=>R) (motive_2:=λ_=>R) (λ_ _=>no 0) (λ_=>no 0) (λ_ _=>no 0) (λ_ _=>no 0) (no 0) (λ_ _ _ _ _=>no 0) (no 0) (λ_=>no 0) (no 0) (λ_ _ _=>no 0) (λ_=>no 0) (no 0) (λ_ _ _=>no 0) (no 0) (λl _=>k l) (λ_ _=>no 0) (0:R) (λ_ _ _ _=>(0:R)) x
noncomputable def vIf(id t:Nat)(x:V)(k:V->R):R:=V.rec (motive_1:=λ_=>R) (motive_2:=λ_=>R) (λ_ _=>no 0) (λ_=>no 0) (λ_ _=>no 0) (λ_ _=>no 0) (no 0) (λ_ _ _ _ _=>no 0) (no 0) (λ_=>no 0) (no 0) (λ_ _ _=>no 0) (λ_=>no 0) (no 0) (λt' v _=>aH (YR t' t) (k v) (no 0)) (no 0) (λ_ _=>no 0) (λ_ _=>no 0) (0:R) (λ_ _ _ _=>(0:R)) x
noncomputable def zK(id:Nat)(x:V)(k:List V->R):R:=V.rec (motive_1:=λ_=>R) (motive_2:=λ_=>R) (λ_ _=>no 0) (λ_=>no 0) (λ_ _=>no 0) (λ_ _=>no 0) (no 0) (λ_ _ _ _ _=>no 0) (no 0) (λ_=>no 0) (no 0) (λ_ _ _=>no 0) (λ_=>no 0) (no 0) (λ_ _ _=>no 0) (no 0) (λ_ _=>no 0) (λl _=>k l) (0:R) (λ_ _ _ _=>(0:R)) x
noncomputable def nth(id:Nat)(l:List V):Nat->(V->R)->R:=List.rec (motive:=λ_=>Nat->(V->R)->R) (λ_ _=>no 0) (λv _ ih i k=>Nat.rec (motive:=λ_=>R) (k v) (λj _=>ih j k) i) l
noncomputable def takeN(id:Nat)(l:List V):Nat->(List V->R)->R:=List.rec (motive:=λ_=>Nat->(List V->R)->R) (λi k=>Nat.rec (motive:=λ_=>R) (k []) (λ_ _=>no 0) i) (λv _ ih i k=>Nat.rec (motive:=λ_=>R) (k []) (λj _=>ih j λr=>k (v::r)) i) l
noncomputable def fE(id:Nat)(l:List V):Nat->(List V->R)->R:=List.rec (motive:=λ_=>Nat->(List V->R)->R) (λi k=>Nat.rec (motive:=λ_=>R) (k []) (λ_ _=>no 0) i) (λv l ih i k=>Nat.rec (motive:=λ_=>R) (k (v::l)) (λj _=>ih j k) i) l
noncomputable def jQ(l m:List V):(List V->R)->R:=List.rec (motive:=λ_=>(List V->R)->R) (λk=>k m) (λv _ ih k=>ih λr=>k (v::r)) l
noncomputable def over(id:Nat)(m:List V):List V->(List V->R)->R:=List.rec (motive:=λ_=>List V->(List V->R)->R) (λl k=>k l) (λx _ ih l k=>List.rec (motive:=λ_=>R) (no 0) (λ_ r _=>ih r λq=>k (x::q)) l) m
noncomputable def setAt(id:Nat)(m l:List V):Nat->(List V->R)->R:=List.rec (motive:=λ_=>Nat->(List V->R)->R) (λi k=>Nat.rec (motive:=λ_=>R) (over id m [] k) (λ_ _=>no 0) i) (λv l ih i k=>Nat.rec (motive:=λ_=>R) (over id m (v::l) k) (λj _=>ih j λr=>k (v::r)) i) l
noncomputable def fA(l:List V):Nat:=List.rec (motive:=λ_=>Nat) 0 (λ_ _ ih=>WN ih) l
noncomputable def W8(m:List V)(n:Nat):(List V->R)->R:=Nat.rec (motive:=λ_=>(List V->R)->R) (λk=>k []) (λ_ ih k=>ih λr=>jQ m r k) n
noncomputable def dV(id:Nat)(x:V)(k:R):R:=V.rec (motive_1:=λ_=>R) (motive_2:=λ_=>R) (λ_ _=>k) (λ_=>k) (λ_ _=>k) (λ_ _=>k) (k) (λ_ _ _ _ _=>k) (k) (λ_=>k) (k) (λ_ _ _=>k) (λ_=>k) (k) (λ_ _ _=>k) (k) (λ_ _=>no 0) (λ_ _=>no 0) (0:R) (λ_ _ _ _=>(0:R)) x
noncomputable def bA(id:Nat)(l:List V)(k:R):R:=List.rec (motive:=λ_=>R) k (λv _ ih=>dV id v ih) l
noncomputable def iB(id:Nat)(l:List V):(Nat->Nat->R)->R:=List.rec (motive:=λ_=>(Nat->Nat->R)->R) (λk=>k 0 0) (λv _ ih k=>cD id v λkd x=>aH (YR kd 4) (ih λlen n=>av (Yg x (Ym 256 n)) λn'=>av (WN len) λlen'=>k len' n') (no 0)) l
noncomputable def qk(len:Nat):Nat->(List V->R)->R:=Nat.rec (motive:=λ_=>Nat->(List V->R)->R) (λ_ k=>k []) (λ_ ih n k=>av (Yx n 256) λx=>av (Wm n 256) λn'=>ih n' λr=>k (.int 4 x::r)) len
noncomputable def dN(id:Nat)(x:V)(k:List V->R):R:=V.rec (motive_1:=λ_=>R) (motive_2:=λ_=>R) (λkd n=>k [.int kd n]) (λb=>k [.bool b]) (λl n=>k [.str l n]) (λb o=>k [.ptr b o]) (k [.py]) (λb o l c s=>k [.slice b o l c s]) (k [.aC]) (λb=>k [.map b]) (k [.ve]) (λf l ih=>k [.func f l]) (λb=>k [.sU b]) (k [.rf]) (λt v ih=>k [.iface t v]) (k [.Fy]) (λl _=>k l) (λ_ _=>no 0) (0:R) (λ_ _ _ _=>(0:R)) x
noncomputable def uc(id:Nat)(b:eB)(kc:List V->R)(kb:Nat->Nat->R):R:=eB.rec (motive:=λ_=>R) (no 0) kc kb (λ_=>no 0) (no 0) (λ_ _ _ _ _ _=>no 0) (λ_=>no 0) b
noncomputable def bRd(id:Nat)(b:eB)(kc:List V->R)(kb:Nat->Nat->R)(kv:List V->R):R:=eB.rec (motive:=λ_=>R) (no 0) kc kb (λ_=>no 0) (no 0) (λ_ _ _ _ _ _=>no 0) kv b
noncomputable def rP(id:Nat)(b:eB)(km:List (V×V)->R):R:=eB.rec (motive:=λ_=>R) (no 0) (λ_=>no 0) (λ_ _=>no 0) km (no 0) (λ_ _ _ _ _ _=>no 0) (λ_=>no 0) b
noncomputable def eU(b:eB)(k:Nat->Nat->Env->List Slot->RC->RC->R):R:=eB.rec (motive:=λ_=>R) (no 9) (λ_=>no 9) (λ_ _=>no 9) (λ_=>no 9) (no 9) k (λ_=>no 9) b
noncomputable def dv(H:Heap)(b:Nat)(k:eB->R):R:=Heap.rec (motive:=λ_=>R) (λ_ _ t=>k (HT.get t b)) H
noncomputable def cZ(id:Nat)(H:Heap)(b:Nat)(x:eB)(k:Heap->R):R:=Heap.rec (motive:=λ_=>R) (λn bF t=>aH (WA b n) (HT.set x t b λt'=>aH (Yb bF b) (k (.mk n bF t')) (k (.mk n b t'))) (no 0)) H
noncomputable def cC(H:Heap)(x:eB)(k:Nat->Heap->R):R:=Heap.rec (motive:=λ_=>R) (λn bF t=>HT.set x t n λt'=>av (WN n) λn'=>k n (.mk n' bF t')) H
noncomputable def nJ(id:Nat)(H:Heap)(b off:Nat)(k:V->R):R:=dv H b λbl=>uc id bl (λl=>nth id l off k) λlen n=>aH (WA off len) (av (YB0 (WC n (Ym 8 off)) 255) λx=>k (.int 4 x)) (no 0)
noncomputable def Lc(id:Nat)(H:Heap)(b off:Nat)(k:V->R):R:=dv H b λbl=>bRd id bl (λl=>nth id l off k) (λlen n=>aH (WA off len) (av (YB0 (WC n (Ym 8 off)) 255) λx=>k (.int 4 x)) (no 0)) λl=>nth id l off λv=>dV id v (k v)
noncomputable def FP(id:Nat)(H:Heap)(b off n:Nat)(k:List V->R):R:=dv H b λbl=>bRd id bl (λl=>fE id l off λr=>takeN id r n k) (λlen x=>aH (Yb (Yg off n) len) (qk n (WC x (Ym 8 off)) k) (no 0)) λl=>fE id l off λr=>takeN id r n λq=>bA id q (k q)
noncomputable def eL(id:Nat)(H:Heap)(b off n:Nat)(k:List V->R):R:=dv H b λbl=>uc id bl (λl=>fE id l off λr=>takeN id r n k) λlen x=>aH (Yb (Yg off n) len) (qk n (WC x (Ym 8 off)) k) (no 0)
noncomputable def mv(id:Nat)(H:Heap)(b off n:Nat)(k:Nat->R):R:=dv H b λbl=>uc id bl (λl=>fE id l off λr=>takeN id r n λq=>iB id q λ_ x=>k x) λlen x=>aH (Yb (Yg off n) len) (av (Yx (WC x (Ym 8 off)) (YD4 256 n)) k) (no 0)
noncomputable def dS(id:Nat)(H:Heap)(b off:Nat)(m:List V)(k:Heap->R):R:=dv H b λbl=>uc id bl (λl=>bA id m (setAt id m l off λl'=>cZ id H b (.cells l') k)) λlen x=>iB id m λml mx=>aH (Yb (Yg off ml) len) (av (Yg (Yx x (YD4 256 off)) (Yt (Yg mx (Yt (WC x (Ym 8 (Yg off ml))) (Ym 8 ml))) (Ym 8 off))) λx'=>cZ id H b (.bytes len x') k) (no 0)
noncomputable def gv(id:Nat)(f:BF):Nat->Nat->(Nat->R)->R:=BF.rec (motive:=λ_=>Nat->Nat->(Nat->R)->R) (λm a b k=>av (Yx (Yg a b) m) k) (λm a b k=>av (Yx (Yg a (QO m b)) m) k) (λm a b k=>av (Yx (Ym a b) m) k) (λa b k=>av (YB0 a b) k) (λa b k=>av (Nat.lor a b) k) (λa b k=>av (YP1 a b) k) (λm a b k=>av (YB0 a (YP1 b (Nat.pred m))) k) (λm bits a b k=>aH (Yb b bits) (av (Yx (Yt a b) m) k) (aH (WA b 9223372036854775808) (k 0) (no 0))) (λhalf bits a b k=>aH (WA a half) (aH (Yb b bits) (av (WC a b) k) (aH (WA b 9223372036854775808) (k 0) (no 0))) (no 0)) (λhalf a b k=>aH (WA a half) (aH (WA b half) (aH (YR b 0) (no 0) (av (Wm a b) k)) (no 0)) (no 0)) (λhalf a b k=>aH (WA a half) (aH (WA b half) (aH (YR b 0) (no 0) (av (Yx a b) k)) (no 0)) (no 0)) f
noncomputable def dW(f:CF):Nat->Nat->Bool:=CF.rec (motive:=λ_=>Nat->Nat->Bool) (λa b=>YR a b) (λa b=>Bool.rec true false (YR a b)) (λo m a b=>WA (Yx (Yg a o) m) (Yx (Yg b o) m)) (λo m a b=>Yb (Yx (Yg a o) m) (Yx (Yg b o) m)) (λo m a b=>WA (Yx (Yg b o) m) (Yx (Yg a o) m)) (λo m a b=>Yb (Yx (Yg b o) m) (Yx (Yg a o) m)) f
abbrev K:=V->Heap->R
abbrev dg:=V->List V->Heap->K->R
noncomputable def af6(id:Nat)(ph:dg)(e:Env)(H:Heap)(k:K):R:=no 0
noncomputable def af7(x:Arg)(id:Nat)(ph:dg)(e:Env)(H:Heap)(k:K):R:=aJ x e λv=>k v H
noncomputable def adN(c x y:Arg)(id:Nat)(ph:dg)(e:Env)(H:Heap)(k:K):R:=aJ c e λc=>eO id c λb=>aH b (aJ x e λv=>k v H) (aJ y e λv=>k v H)
noncomputable def adM(z:List V)(id:Nat)(ph:dg)(e:Env)(H:Heap)(k:K):R:=cC H (.cells z) λn H=>k (.ptr n 0) H
noncomputable def adL(n:Nat)(id:Nat)(ph:dg)(e:Env)(H:Heap)(k:K):R:=cC H (.bytes n 0) λn H=>k (.ptr n 0) H
noncomputable def Rv(x:Arg)(id:Nat)(ph:dg)(e:Env)(H:Heap)(k:K):R:=aJ x e λv=>dN id v λl=>bA id l (cC H (.cells l) λn H=>k (.ptr n 0) H)
noncomputable def kD(id:Nat)(e:Env)(parts:List (Nat×Nat×Arg)):List V->(List V->R)->R:=List.rec (motive:=λ_=>List V->(List V->R)->R) (λz k=>k z) (λp _ ih z k=>YJ2 (motive:=λ_=>R) (λoff q=>YJ2 (motive:=λ_=>R) (λsize a=>aJ a e λv=>dN id v λl=>aH (YR (fA l) size) (setAt id l z off λz'=>ih z' k) (no 0)) q) p) parts
noncomputable def Rw(zero:List V)(parts:List (Nat×Nat×Arg))(id:Nat)(ph:dg)(e:Env)(H:Heap)(k:K):R:=kD id e parts zero λl=>k (.agg l) H
noncomputable def BL(u8:Bool)(len:Nat)(zero:List V)(parts:List (Nat×Nat×Arg))(id:Nat)(ph:dg)(e:Env)(H:Heap)(k:K):R:=kD id e parts zero λl=>aH u8 (iB id l λln n=>cC H (.bytes ln n) λb H=>k (.slice b 0 len (WN len) 0) H) (bA id l (cC H (.cells l) λb H=>k (.slice b 0 len (WN len) 0) H))
noncomputable def qT(a:Arg)(id:Nat)(ph:dg)(e:Env)(H:Heap)(k:K):R:=aJ a e λa=>ej id a λb o=>Lc id H b o λv=>k v H
noncomputable def qU(n:Nat)(a:Arg)(id:Nat)(ph:dg)(e:Env)(H:Heap)(k:K):R:=aJ a e λa=>ej id a λb o=>FP id H b o n λl=>k (.agg l) H
noncomputable def vE(a x:Arg)(id:Nat)(ph:dg)(e:Env)(H:Heap)(k:K):R:=aJ a e λa=>ej id a λb o=>aJ x e λx=>dV id x (dS id H b o [x] λH=>k (.cG []) H)
noncomputable def vF(n:Nat)(a x:Arg)(id:Nat)(ph:dg)(e:Env)(H:Heap)(k:K):R:=aJ a e λa=>ej id a λb o=>aJ x e λx=>iT id x λl=>aH (YR (fA l) n) (dS id H b o l λH=>k (.cG []) H) (no 0)
noncomputable def KM(x:Arg)(id:Nat)(ph:dg)(e:Env)(H:Heap)(k:K):R:=aJ x e λv=>V.rec (motive_1:=λ_=>R) (motive_2:=λ_=>R) (λkd n=>k (.int kd n) H) (λb=>k (.bool b) H) (λl n=>k (.str l n) H) (λb o=>k (.ptr b o) H) (no 0) (λb o l c s=>k (.slice b o l c s) H) (k .aC H) (λb=>k (.map b) H) (k .ve H) (λf l ih=>k (.func f l) H) (λb=>k (.sU b) H) (no 0) (λt v ih=>k (.iface t v) H) (no 0) (λl ih=>k (.agg l) H) (λl ih=>k (.cG l) H) (0:R) (λ_ _ _ _=>(0:R)) v
noncomputable def MJ(kd ky:Nat)(f:BF)(x y:Arg)(id:Nat)(ph:dg)(e:Env)(H:Heap)(k:K):R:=aJ x e λx=>cD id x λk1 a=>aJ y e λy=>cD id y λk2 b=>aH (YR k1 kd) (aH (YR k2 ky) (gv id f a b λr=>k (.int kd r) H) (no 0)) (no 0)
noncomputable def aaK(kd:Nat)(f:CF)(x y:Arg)(id:Nat)(ph:dg)(e:Env)(H:Heap)(k:K):R:=aJ x e λx=>cD id x λk1 a=>aJ y e λy=>cD id y λk2 b=>aH (YR k1 kd) (aH (YR k2 kd) (aH (dW f a b) (k (.bool true) H) (k (.bool false) H)) (no 0)) (no 0)
noncomputable def Ek(x y:Arg)(id:Nat)(ph:dg)(e:Env)(H:Heap)(k:K):R:=aJ x e λx=>dZ id x λl1 n1=>aJ y e λy=>dZ id y λl2 n2=>av (Yg l1 l2) λl=>aH (WA l 9223372036854775808) (av (Yg n1 (Yt n2 (Ym 8 l1))) λn=>k (.str l n) H) (no 0)
noncomputable def RO(neg:Bool)(x y:Arg)(id:Nat)(ph:dg)(e:Env)(H:Heap)(k:K):R:=aJ x e λx=>dZ id x λl1 n1=>aJ y e λy=>dZ id y λl2 n2=>aH (YR l1 l2) (aH (YR n1 n2) (aH neg (k (.bool false) H) (k (.bool true) H)) (k (.bool neg) H)) (k (.bool neg) H)
noncomputable def gf(id:Nat)(x:V)(k:Nat->R):R:=V.rec (motive_1:=λ_=>R) (motive_2:=λ_=>R) (λ_ _=>no 0) (λb=>aH b (k 2) (k 3)) (λ_ _=>no 0) (λ_ _=>k 11) (k 10) (λ_ _ _ _ _=>k 21) (k 20) (λ_=>k 31) (k 30) (λ_ _ _=>k 41) (λ_=>no 0) (k 40) (λ_ _ _=>k 51) (k 50) (λ_ _=>no 0) (λ_ _=>no 0) (0:R) (λ_ _ _ _=>(0:R)) x
noncomputable def U5(kc:Nat)(neg:Bool)(x y:Arg)(id:Nat)(ph:dg)(e:Env)(H:Heap)(k:K):R:=aJ x e λx=>gf id x λa=>aJ y e λy=>gf id y λb=>aH (YR (Wm a 10) kc) (aH (YR (Wm b 10) kc) (aH (YR a b) (aH (YR (Yx a 10) 1) (no 0) (aH neg (k (.bool false) H) (k (.bool true) H))) (k (.bool neg) H)) (no 0)) (no 0)
noncomputable def RJ(x:Arg)(id:Nat)(ph:dg)(e:Env)(H:Heap)(k:K):R:=aJ x e λx=>eO id x λb=>aH b (k (.bool false) H) (k (.bool true) H)
noncomputable def Ir(src dst mode c:Nat)(x:Arg)(id:Nat)(ph:dg)(e:Env)(H:Heap)(k:K):R:=aJ x e λx=>cD id x λk1 a=>aH (YR k1 src) (Nat.rec (motive:=λ_=>R) (av (Yx a c) λr=>k (.int dst r) H) (λ_ _=>aH (WA a mode) (k (.int dst a) H) (av (Yg a c) λr=>k (.int dst r) H)) mode) (no 0)
noncomputable def wU(x:Arg)(id:Nat)(ph:dg)(e:Env)(H:Heap)(k:K):R:=aJ x e λx=>bD id x (λb o l _ _=>mv id H b o l λn=>k (.str l n) H) (k (.str 0 0) H)
noncomputable def wV(x:Arg)(id:Nat)(ph:dg)(e:Env)(H:Heap)(k:K):R:=aJ x e λx=>dZ id x λl n=>aH (Yb l 16777216) (cC H (.bytes l n) λb H=>k (.slice b 0 l 0 1) H) (no 0)
noncomputable def aaV(t:Nat)(x:Arg)(id:Nat)(ph:dg)(e:Env)(H:Heap)(k:K):R:=aJ x e λx=>vIf id t x λv=>k (.cG [v,.bool true]) H
noncomputable def aaP(t:Nat)(x:Arg)(id:Nat)(ph:dg)(e:Env)(H:Heap)(k:K):R:=aJ x e λv=>k (.iface t v) H
noncomputable def RM(f:Nat)(caps:List Arg)(id:Nat)(ph:dg)(e:Env)(H:Heap)(k:K):R:=oT caps e λl=>k (.func f l) H
noncomputable def aaQ(id:Nat)(ph:dg)(e:Env)(H:Heap)(k:K):R:=cC H (.map []) λb H=>k (.map b) H
noncomputable def wW(u8:Bool)(zero:List V)(l c:Arg)(id:Nat)(ph:dg)(e:Env)(H:Heap)(k:K):R:=aJ l e λl=>cD id l λkl l=>aJ c e λc=>cD id c λkc c=>aH (Yb 3 kl) (aH (Yb 3 kc) (aH (Yb l c) (aH (Yb c 16777216) (aH u8 (cC H (.bytes c 0) λb H=>av (WN c) λc1=>k (.slice b 0 l c1 0) H) (W8 zero c λr=>bA id r (cC H (.cells r) λb H=>av (WN c) λc1=>k (.slice b 0 l c1 0) H))) (no 0)) (no 0)) (no 0)) (no 0)
noncomputable def gO(id:Nat)(x:Option Arg)(e:Env)(d:Nat)(k:Nat->R):R:=Option.rec (motive:=λ_=>R) (k d) (λa=>aJ a e λv=>cD id v λkd n=>aH (Yb 3 kd) (aH (WA n 9223372036854775808) (k n) (no 0)) (no 0)) x
noncomputable def aaT(x:Arg)(lo hi:Option Arg)(id:Nat)(ph:dg)(e:Env)(H:Heap)(k:K):R:=aJ x e λx=>dZ id x λlen n=>gO id hi e len λh=>gO id lo e 0 λl=>aH (Yb l h) (aH (Yb h len) (av (QO h l) λd=>av (Yx (WC n (Ym 8 l)) (YD4 256 d)) λr=>k (.str d r) H) (no 0)) (no 0)
noncomputable def aaU(size:Nat)(x:Arg)(lo hi mx:Option Arg)(id:Nat)(ph:dg)(e:Env)(H:Heap)(k:K):R:=aJ x e λx=>bD id x (λb o len cp sz=>gO id lo e 0 λl=>gO id hi e len λh=>aH (Yb l h) (av (QO h l) λd=>Option.rec (motive:=λ_=>R) (Nat.rec (motive:=λ_=>R) (aH (Yb h len) (aH (YR sz size) (av (Yg o (Ym l size)) λo'=>k (.slice b o' d 0 sz) H) (no 0)) (no 0)) (λq _=>aH (Yb h q) (aH (YR q l) (k (.slice b o d 1 0) H) (av (Yg o (Ym l size)) λo'=>av (WN (QO q l)) λc'=>k (.slice b o' d c' 0) H)) (no 0)) cp) (λm=>gO id (some m) e 0 λm=>aH (Yb h m) (aH (Yb m (Nat.rec (motive:=λ_=>Nat) len (λq _=>q) cp)) (aH (YR m l) (k (.slice b o d 1 0) H) (av (Yg o (Ym l size)) λo'=>av (WN (QO m l)) λc'=>k (.slice b o' d c' 0) H)) (no 0)) (no 0)) mx) (no 0)) (gO id lo e 0 λl=>gO id hi e 0 λh=>gO id mx e 0 λm=>aH (YR l 0) (aH (YR h 0) (aH (YR m 0) (k .aC H) (no 0)) (no 0)) (no 0))
noncomputable def aaS(n size:Nat)(x:Arg)(lo hi mx:Option Arg)(id:Nat)(ph:dg)(e:Env)(H:Heap)(k:K):R:=aJ x e λx=>ej id x λb o=>gO id mx e n λm=>gO id hi e n λh=>gO id lo e 0 λl=>aH (Yb l h) (aH (Yb h m) (aH (Yb m n) (av (QO h l) λd=>aH (YR m l) (k (.slice b o d 1 0) H) (av (Yg o (Ym l size)) λo'=>av (WN (QO m l)) λc'=>k (.slice b o' d c' 0) H)) (no 0)) (no 0)) (no 0)
noncomputable def RA(off:Nat)(x:Arg)(id:Nat)(ph:dg)(e:Env)(H:Heap)(k:K):R:=aJ x e λx=>ej id x λb o=>av (Yg o off) λo'=>k (.ptr b o') H
noncomputable def RB(off:Nat)(x:Arg)(id:Nat)(ph:dg)(e:Env)(H:Heap)(k:K):R:=aJ x e λx=>iT id x λl=>nth id l off λv=>k v H
noncomputable def RD(off n:Nat)(x:Arg)(id:Nat)(ph:dg)(e:Env)(H:Heap)(k:K):R:=aJ x e λx=>iT id x λl=>fE id l off λr=>takeN id r n λq=>k (.agg q) H
noncomputable def idx(id:Nat)(i:Arg)(e:Env)(len:Nat)(k:Nat->R):R:=aJ i e λv=>cD id v λkd n=>aH (Yb 3 kd) (aH (WA n len) (aH (WA n 9223372036854775808) (k n) (no 0)) (no 0)) (no 0)
noncomputable def aaL(len size:Nat)(x i:Arg)(id:Nat)(ph:dg)(e:Env)(H:Heap)(k:K):R:=aJ x e λx=>ej id x λb o=>idx id i e len λn=>av (Yg o (Ym n size)) λo'=>k (.ptr b o') H
noncomputable def aaO(size:Nat)(x i:Arg)(id:Nat)(ph:dg)(e:Env)(H:Heap)(k:K):R:=aJ x e λx=>lS id x λb o len _ _=>idx id i e len λn=>av (Yg o (Ym n size)) λo'=>k (.ptr b o') H
noncomputable def aaN(x i:Arg)(id:Nat)(ph:dg)(e:Env)(H:Heap)(k:K):R:=aJ x e λx=>dZ id x λlen m=>idx id i e len λn=>av (YB0 (WC m (Ym 8 n)) 255) λr=>k (.int 4 r) H
noncomputable def aaM(len size:Nat)(agg:Bool)(x i:Arg)(id:Nat)(ph:dg)(e:Env)(H:Heap)(k:K):R:=aJ x e λx=>iT id x λl=>idx id i e len λn=>aH agg (fE id l (Ym n size) λr=>takeN id r size λq=>k (.agg q) H) (nth id l (Ym n size) λv=>k v H)
noncomputable def KT(id:Nat)(ks:Bool)(x y:V)(k:Bool->R):R:=V.rec (motive_1:=λ_=>R) (motive_2:=λ_=>R) (λk1 a=>cD id y λk2 b=>aH ks (no 0) (aH (YR k1 k2) (k (YR a b)) (no 0))) (λ_=>no 0) (λl1 a=>dZ id y λl2 b=>aH ks (aH (YR l1 l2) (k (YR a b)) (k false)) (no 0)) (λ_ _=>no 0) (no 0) (λ_ _ _ _ _=>no 0) (no 0) (λ_=>no 0) (no 0) (λ_ _ _=>no 0) (λ_=>no 0) (no 0) (λ_ _ _=>no 0) (no 0) (λ_ _=>no 0) (λ_ _=>no 0) (0:R) (λ_ _ _ _=>(0:R)) x
noncomputable def uz(id:Nat)(ks:Bool)(es:List (V×V))(x:V)(f:V->R)(z:R):R:=List.rec (motive:=λ_=>R) z (λp _ ih=>YJ2 (motive:=λ_=>R) (λa v=>KT id ks x a λb=>aH b (f v) ih) p) es
noncomputable def Gv(id:Nat)(ks:Bool)(es:List (V×V))(x y:V):(List (V×V)->R)->R:=List.rec (motive:=λ_=>(List (V×V)->R)->R) (λk=>k [(x,y)]) (λp l ih k=>YJ2 (motive:=λ_=>R) (λa v=>KT id ks x a λb=>aH b (k ((a,y)::l)) (ih λr=>k ((a,v)::r))) p) es
noncomputable def adK(id:Nat)(ks:Bool)(es:List (V×V))(x:V):(List (V×V)->R)->R:=List.rec (motive:=λ_=>(List (V×V)->R)->R) (λk=>k []) (λp l ih k=>YJ2 (motive:=λ_=>R) (λa v=>KT id ks x a λb=>aH b (k l) (ih λr=>k ((a,v)::r))) p) es
noncomputable def RK(ks:Bool)(zero:V)(ok:Bool)(m x:Arg)(id:Nat)(ph:dg)(e:Env)(H:Heap)(k:K):R:=aJ m e λm=>aJ x e λx=>qI id m (λb=>dv H b λbl=>rP id bl λes=>uz id ks es x (λv=>aH ok (k (.cG [v,.bool true]) H) (k v H)) (aH ok (k (.cG [zero,.bool false]) H) (k zero H))) (aH ok (k (.cG [zero,.bool false]) H) (k zero H))
noncomputable def isKey(id:Nat)(x:V)(k:R):R:=V.rec (motive_1:=λ_=>R) (motive_2:=λ_=>R) (λ_ _=>k) (λ_=>no 0) (λ_ _=>k) (λ_ _=>no 0) (no 0) (λ_ _ _ _ _=>no 0) (no 0) (λ_=>no 0) (no 0) (λ_ _ _=>no 0) (λ_=>no 0) (no 0) (λ_ _ _=>no 0) (no 0) (λ_ _=>no 0) (λ_ _=>no 0) (0:R) (λ_ _ _ _=>(0:R)) x
noncomputable def RN(ks:Bool)(m x y:Arg)(id:Nat)(ph:dg)(e:Env)(H:Heap)(k:K):R:=aJ m e λm=>aJ x e λx=>aJ y e λy=>GP id m λb=>dv H b λbl=>rP id bl λes=>isKey id x (Gv id ks es x y λes'=>cZ id H b (.map es') λH=>k (.cG []) H)
noncomputable def RL(ks:Bool)(m x:Arg)(id:Nat)(ph:dg)(e:Env)(H:Heap)(k:K):R:=aJ m e λm=>aJ x e λx=>GP id m λb=>dv H b λbl=>rP id bl λes=>adK id ks es x λes'=>cZ id H b (.map es') λH=>k (.cG []) H
noncomputable def Rz(x:Arg)(i:Nat)(id:Nat)(ph:dg)(e:Env)(H:Heap)(k:K):R:=aJ x e λx=>zK id x λl=>nth id l i λv=>k v H
noncomputable def Rx(f:Nat)(args:List Arg)(id:Nat)(ph:dg)(e:Env)(H:Heap)(k:K):R:=oT args e λl=>ph (.func f []) l H k
noncomputable def Iq(x:Arg)(args:List Arg)(id:Nat)(ph:dg)(e:Env)(H:Heap)(k:K):R:=aJ x e λx=>oT args e λl=>ph x l H k
noncomputable def cX(id:Nat)(size:Nat)(H:Heap)(x:V)(k:Nat->List V->R):R:=V.rec (motive_1:=λ_=>R) (motive_2:=λ_=>R) (λ_ _=>no 0) (λ_=>no 0) (λl n=>aH (YR size 1) (qk l n λm=>k l m) (no 0)) (λ_ _=>no 0) (no 0) (λb o l _ _=>Nat.rec (motive:=λ_=>R) (k 0 []) (λ_ _=>FP id H b o (Ym l size) λm=>k l m) l) (k 0 []) (λ_=>no 0) (no 0) (λ_ _ _=>no 0) (λ_=>no 0) (no 0) (λ_ _ _=>no 0) (no 0) (λ_ _=>no 0) (λ_ _=>no 0) (0:R) (λ_ _ _ _=>(0:R)) x
noncomputable def xQ(id:Nat)(H:Heap)(x:V)(k:Nat->Nat->R):R:=V.rec (motive_1:=λ_=>R) (motive_2:=λ_=>R) (λ_ _=>no 0) (λ_=>no 0) (λl n=>k l n) (λ_ _=>no 0) (no 0) (λb o l _ _=>mv id H b o l λm=>k l m) (k 0 0) (λ_=>no 0) (no 0) (λ_ _ _=>no 0) (λ_=>no 0) (no 0) (λ_ _ _=>no 0) (no 0) (λ_ _=>no 0) (λ_ _=>no 0) (0:R) (λ_ _ _ _=>(0:R)) x
noncomputable def rM(id size:Nat)(n:Nat)(new:List V)(b o len cp sz:Nat)(H:Heap)(k:K):R:=bA id new (av (Yg len n) λneed=>aH (Yb need 1073741824) (Nat.rec (motive:=λ_=>R) (aH (YR sz size) (aH (YR o 0) (dv H b λbl=>uc id bl (λl=>aH (YR (fA l) (Ym len size)) (jQ l new λl'=>cZ id H b .dead λH=>cC H (.cells l') λb' H=>k (.slice b' 0 need 0 size) H) (no 0)) (λ_ _=>no 0)) (no 0)) (no 0)) (λq _=>aH (Yb need q) (dS id H b (Yg o (Ym len size)) new λH=>k (.slice b o need cp sz) H) (eL id H b o (Ym len size) λl=>bA id l (jQ l new λl'=>cC H (.cells l') λb' H=>k (.slice b' 0 need 0 size) H))) cp) (no 0))
noncomputable def KL(size:Nat)(s x:Arg)(id:Nat)(e:Env)(H:Heap)(k:K):R:=aJ s e λs=>aJ x e λx=>cX id size H x λn new=>bD id s (λb o len cp sz=>Nat.rec (motive:=λ_=>R) (k s H) (λ_ _=>rM id size n new b o len cp sz H k) n) (Nat.rec (motive:=λ_=>R) (k s H) (λ_ _=>bA id new (aH (Yb n 1073741824) (cC H (.cells new) λb' H=>k (.slice b' 0 n 0 size) H) (no 0))) n)
noncomputable def L2(id:Nat)(n new:Nat)(b o len cp sz:Nat)(H:Heap)(k:K):R:=av (Yg len n) λneed=>aH (Yb need 1073741824) (Nat.rec (motive:=λ_=>R) (aH (YR sz 1) (aH (YR o 0) (dv H b λbl=>uc id bl (λ_=>no 0) (λln m=>aH (YR ln len) (av (Yg m (Yt new (Ym 8 len))) λm'=>cZ id H b .dead λH=>cC H (.bytes need m') λb' H=>k (.slice b' 0 need 0 1) H) (no 0))) (no 0)) (no 0)) (λq _=>aH (Yb need q) (no 0) (mv id H b o len λm=>av (Yg m (Yt new (Ym 8 len))) λm'=>cC H (.bytes need m') λb' H=>k (.slice b' 0 need 0 1) H)) cp) (no 0)
noncomputable def KK(s x:Arg)(id:Nat)(e:Env)(H:Heap)(k:K):R:=aJ s e λs=>aJ x e λx=>xQ id H x λn new=>bD id s (λb o len cp sz=>Nat.rec (motive:=λ_=>R) (k s H) (λ_ _=>L2 id n new b o len cp sz H k) n) (Nat.rec (motive:=λ_=>R) (k s H) (λ_ _=>aH (Yb n 1073741824) (cC H (.bytes n new) λb' H=>k (.slice b' 0 n 0 1) H) (no 0)) n)
noncomputable def af5(u8:Bool)(size:Nat)(s x:Arg)(id:Nat)(ph:dg)(e:Env)(H:Heap)(k:K):R:=aH u8 (KK s x id e H k) (KL size s x id e H k)
noncomputable def Sx(id:Nat)(x:V)(k:Nat->R):R:=V.rec (motive_1:=λ_=>R) (motive_2:=λ_=>R) (λ_ _=>no 0) (λ_=>no 0) (λl _=>k l) (λ_ _=>no 0) (no 0) (λ_ _ l _ _=>k l) (k 0) (λ_=>no 0) (no 0) (λ_ _ _=>no 0) (λ_=>no 0) (no 0) (λ_ _ _=>no 0) (no 0) (λ_ _=>no 0) (λ_ _=>no 0) (0:R) (λ_ _ _ _=>(0:R)) x
noncomputable def Nr(a b:Nat)(k:Nat->R):R:=aH (Yb a b) (k a) (k b)
noncomputable def kX(id n:Nat)(H:Heap)(k:K):R:=aH (WA n 9223372036854775808) (k (.int 3 n) H) (no 0)
noncomputable def Ry(size:Nat)(d s:Arg)(id:Nat)(ph:dg)(e:Env)(H:Heap)(k:K):R:=aJ d e λd=>aJ s e λs=>bD id d (λb o dl _ _=>Sx id s λsl=>Nr sl dl λn=>cX id size H s λ_ l=>takeN id l (Ym n size) λm=>Nat.rec (motive:=λ_=>R) (k (.int 3 0) H) (λ_ _=>dS id H b o m λH=>kX id n H k) n) (cX id size H s λ_ _=>k (.int 3 0) H)
noncomputable def RH(x:Arg)(id:Nat)(ph:dg)(e:Env)(H:Heap)(k:K):R:=aJ x e λx=>dZ id x λn _=>kX id n H k
noncomputable def RE(x:Arg)(id:Nat)(ph:dg)(e:Env)(H:Heap)(k:K):R:=aJ x e λx=>bD id x (λ_ _ n _ _=>kX id n H k) (kX id 0 H k)
noncomputable def B8(es:List (V×V)):Nat:=List.rec (motive:=λ_=>Nat) 0 (λ_ _ ih=>WN ih) es
noncomputable def RG(x:Arg)(id:Nat)(ph:dg)(e:Env)(H:Heap)(k:K):R:=aJ x e λx=>qI id x (λb=>dv H b λbl=>rP id bl λes=>av (B8 es) λn=>kX id n H k) (kX id 0 H k)
noncomputable def aaJ(x:Arg)(id:Nat)(ph:dg)(e:Env)(H:Heap)(k:K):R:=aJ x e λx=>bD id x (λ_ _ _ cp _=>Nat.rec (motive:=λ_=>R) (no 0) (λq _=>aH (WA q 9223372036854775808) (k (.int 3 q) H) (no 0)) cp) (k (.int 3 0) H)
noncomputable def eMm(kd o m:Nat)(mx:Bool)(x y:Arg)(id:Nat)(ph:dg)(e:Env)(H:Heap)(k:K):R:=aJ x e λx=>cD id x λk1 a=>aJ y e λy=>cD id y λk2 b=>aH (YR k1 kd) (aH (YR k2 kd) (aH (Yb (Yx (Yg a o) m) (Yx (Yg b o) m)) (aH mx (k (.int kd b) H) (k (.int kd a) H)) (aH mx (k (.int kd a) H) (k (.int kd b) H))) (no 0)) (no 0)
noncomputable def FJ(o m:Nat)(mx:Bool)(a b:Nat)(k:Nat->R):R:=aH (Yb (Yx (Yg a o) m) (Yx (Yg b o) m)) (aH mx (k b) (k a)) (aH mx (k a) (k b))
noncomputable def U7(kd o m:Nat)(mx:Bool)(x y z:Arg)(id:Nat)(ph:dg)(e:Env)(H:Heap)(k:K):R:=aJ x e λx=>cD id x λk1 a=>aJ y e λy=>cD id y λk2 b=>aJ z e λz=>cD id z λk3 c=>aH (YR k1 kd) (aH (YR k2 kd) (aH (YR k3 kd) (FJ o m mx a b λr=>FJ o m mx r c λq=>k (.int kd q) H) (no 0)) (no 0)) (no 0)
noncomputable def IS(id:Nat)(c:Nat)(x y:V)(k:Bool->R):R:=Nat.rec (motive:=λ_=>R) (eO id x λa=>eO id y λb=>aH a (k b) (aH b (k false) (k true))) (λc' _=>Nat.rec (motive:=λ_=>R) (cD id x λk1 a=>cD id y λk2 b=>aH (YR k1 k2) (k (YR a b)) (no 0)) (λ_ _=>dZ id x λl1 a=>dZ id y λl2 b=>aH (YR l1 l2) (k (YR a b)) (k false)) c') c
noncomputable def AI(l:List Nat):Nat:=List.rec (motive:=λ_=>Nat) 0 (λ_ _ ih=>WN ih) l
noncomputable def gu(id:Nat)(cls:List Nat):List V->List V->(Bool->R)->R:=List.rec (motive:=λ_=>List V->List V->(Bool->R)->R) (λ_ _ k=>k true) (λc _ ih l m k=>List.rec (motive:=λ_=>R) (no 0) (λa l' _=>List.rec (motive:=λ_=>R) (no 0) (λb m' _=>IS id c a b λr=>aH r (ih l' m' k) (k false)) m) l) cls
noncomputable def Ip(cls:List Nat)(neg:Bool)(x y:Arg)(id:Nat)(ph:dg)(e:Env)(H:Heap)(k:K):R:=aJ x e λx=>iT id x λl=>aJ y e λy=>iT id y λm=>aH (YR (fA l) (AI cls)) (aH (YR (fA m) (AI cls)) (gu id cls l m λb=>aH b (aH neg (k (.bool false) H) (k (.bool true) H)) (k (.bool neg) H)) (no 0)) (no 0)
noncomputable def aQ(o:lk):Nat->dg->Env->Heap->K->R:=lk.rec (motive:=λ_=>Nat->dg->Env->Heap->K->R) af6 af7 adN adM adL Rv Rw BL qT qU vE vF KM MJ aaK Ek RO U5 RJ Ir wU wV aaP RM aaQ wW aaT aaU aaS RA RB RD aaL aaO aaN aaM RK RN RL Rz Rx Iq af5 Ry RH RE RG aaJ eMm Ip U7 aaV o
noncomputable def cj(d:Option Slot)(v:V)(e:Env)(k:Env->R):R:=Option.rec (motive:=λ_=>R) (k e) (λs=>JF s v e k) d
noncomputable def Hf(x:V)(want:Bool)(t f:R):R:=V.rec (motive_1:=λ_=>R) (motive_2:=λ_=>R) (λ_ _=>f) (λb=>Bool.rec (motive:=λ_=>R) (aH want f t) (aH want t f) b) (λ_ _=>f) (λ_ _=>f) (f) (λ_ _ _ _ _=>f) (f) (λ_=>f) (f) (λ_ _ _=>f) (λ_=>f) (f) (λ_ _ _=>f) (f) (λ_ _=>f) (λ_ _=>f) (0:R) (λ_ _ _ _=>(0:R)) x
noncomputable def uP(g:Option (Slot×Bool))(e:Env)(t f:R):R:=Option.rec (motive:=λ_=>R) t (λp=>YJ2 (motive:=λ_=>R) (λs b=>jU s e λv=>Hf v b t f) p) g
noncomputable def jm(ph:dg)(l:List Db):Env->Heap->(Env->Heap->R)->R:=List.rec (motive:=λ_=>Env->Heap->(Env->Heap->R)->R) (λe H k=>k e H) (λo _ ih e H k=>Db.rec (motive:=λ_=>R) (λid d g _ op=>uP g e (aQ op id ph e H λv H'=>cj d v e λe'=>ih e' H' k) (cj d (.cG []) e λe'=>ih e' H k)) o) l
noncomputable def cP(ph:dg)(l:List Db):Env->Heap->(Env->Heap->R)->R:=List.rec (motive:=λ_=>Env->Heap->(Env->Heap->R)->R) (λe H k=>k e H) (λo _ ih e H k=>Db.rec (motive:=λ_=>R) (λid d g cls op=>uP g e (Nat.rec (motive:=λ_=>R) (aQ op id ph e H λv H'=>cj d v e λe'=>ih e' H' k) (λ_ _=>Heap.rec (motive:=λ_=>R) (λn bF t=>aQ op id ph e (.mk n n t) λv H'=>Heap.rec (motive:=λ_=>R) (λn' wlo' t'=>aH (Yb n wlo') (cj d v e λe'=>ih e' (.mk n' bF t') k) (no 0)) H') H) cls) (cj d (.cG []) e λe'=>ih e' H k)) o) l
abbrev KE:=Env->Heap->R
noncomputable def nE(id:Nat)(x:V)(k:Option Nat->R):R:=V.rec (motive_1:=λ_=>R) (motive_2:=λ_=>R) (λ_ _=>no 0) (λ_=>no 0) (λ_ _=>no 0) (λb _=>k (some b)) (no 0) (λb _ _ _ _=>k (some b)) (k none) (λ_=>no 0) (no 0) (λ_ _ _=>no 0) (λ_=>no 0) (no 0) (λ_ _ _=>no 0) (no 0) (λ_ _=>no 0) (λ_ _=>no 0) (0:R) (λ_ _ _ _=>(0:R)) x
noncomputable def dM(id bf b:Nat)(l:List (Nat×Nat))(k:R):R:=List.rec (motive:=λ_=>R) k (λp _ ih=>YJ2 (motive:=λ_=>R) (λi' b'=>aH (Nat.testBit bf i') ih (aH (YR b b') (no 0) ih)) p) l
noncomputable def Ai(id:Nat)(b:eB)(k:R):R:=uc id b (λl=>List.rec (motive:=λ_=>R) k (λv _ ih=>isKey id v ih) l) λ_ _=>no 0
noncomputable def bQ(ph:dg)(n0:Nat)(l:List uQ):Env->Heap->List (Nat×Nat)->List (Nat×Nat)->(Env->Heap->R)->R:=List.rec (motive:=λ_=>Env->Heap->List (Nat×Nat)->List (Nat×Nat)->(Env->Heap->R)->R) (λe H _ _ k=>k e H) (λo _ ih e H fl st k=>uQ.rec (motive:=λ_=>R) (λid d g tag i bf ad op=>uP g e (Nat.rec (motive:=λ_=>R) (aQ op id ph e H λv H'=>cj d v e λe'=>ih e' H' fl st k) (λt1 _=>Nat.rec (motive:=λ_=>R) (Heap.rec (motive:=λ_=>R) (λn bF t=>aQ op id ph e (.mk n n t) λv H'=>Heap.rec (motive:=λ_=>R) (λn' wlo' t'=>aH (Yb n wlo') (cj d v e λe'=>ih e' (.mk n' bF t') fl st k) (no 0)) H') H) (λt2 _=>aJ ad e λa=>nE id a λob=>Nat.rec (motive:=λ_=>R) (Option.rec (motive:=λ_=>R) (no 0) (λb=>aH (WA b n0) (dM id bf b st (aQ op id ph e H λv H'=>cj d v e λe'=>ih e' H ((i,b)::fl) st k)) (no 0)) ob) (λt3 _=>Nat.rec (motive:=λ_=>R) (Option.rec (motive:=λ_=>R) (aQ op id ph e H λv H'=>cj d v e λe'=>ih e' H' fl st k) (λb=>dM id bf b fl (aQ op id ph e H λv H'=>cj d v e λe'=>ih e' H' fl ((i,b)::st) k)) ob) (λ_ _=>Heap.rec (motive:=λ_=>R) (λn bF t=>aQ op id ph e (.mk n n t) λv H'=>Heap.rec (motive:=λ_=>R) (λn' wlo' t'=>aH (Yb n wlo') (Ai id (HT.get t' n) (cj d v e λe'=>ih e' (.mk n' bF t') ((i,n)::fl) st k)) (no 0)) H') H) t3) t2) t1) tag) (cj d (.cG []) e λe'=>ih e' H fl st k)) o) l
noncomputable def Ty(x y:V)(k:R):R:=cD 0 x λk1 a=>cD 0 y λk2 b=>aH (YR k1 k2) (aH (YR a b) k (no 0)) (no 0)
noncomputable def rq(l:List V):List V->R->R:=List.rec (motive:=λ_=>List V->R->R) (λm k=>List.rec (motive:=λ_=>R) k (λ_ _ _=>no 0) m) (λa _ ih m k=>List.rec (motive:=λ_=>R) (no 0) (λb m' _=>Ty a b (ih m' k)) m) l
noncomputable def uH(x y:eB)(k:R):R:=uc 0 x (λl=>uc 0 y (λm=>rq l m k) λ_ _=>no 0) λ_ _=>no 0
noncomputable def pF(b:Nat)(x:eB)(hs:List Heap)(k:R):R:=List.rec (motive:=λ_=>R) k (λG _ ih=>dv G b λy=>uH y x ih) hs
noncomputable def qH(H H':Heap)(bs:List Nat)(k:R):R:=List.rec (motive:=λ_=>R) k (λb _ ih=>dv H b λx=>dv H' b λy=>uH y x ih) bs
noncomputable def dm(ph:dg)(n0:Nat)(l:List uQ):Env->Heap->List Heap->List Nat->(Env->Heap->R)->R:=List.rec (motive:=λ_=>Env->Heap->List Heap->List Nat->(Env->Heap->R)->R) (λe H _ _ k=>k e H) (λo _ ih e H hs bs k=>uQ.rec (motive:=λ_=>R) (λid d g tag _ _ ad op=>uP g e (aH (YR tag 5) (aJ ad e λa=>nE id a λob=>Option.rec (motive:=λ_=>R) (no 0) (λb=>aH (WA b n0) (dv H b λx=>pF b x hs (aQ op id ph e H λv _=>cj d v e λe'=>ih e' H hs (b::bs) k)) (no 0)) ob) (aH (YR tag 6) (aQ op id ph e H λv H'=>qH H H' bs (cj d v e λe'=>ih e' H' (H::hs) bs k)) (aQ op id ph e H λv H'=>cj d v e λe'=>ih e' H' hs bs k))) (cj d (.cG []) e λe'=>ih e' H hs bs k)) o) l
noncomputable def gG(c:au):Nat->dg->Env->Heap->KE->(Nat->KE)->R:=au.rec (motive:=λ_=>Nat->dg->Env->Heap->KE->(Nat->KE)->R) (λ_ _ _ _ _ _=>no 8) (λ_ _ e H kn _=>kn e H) (λops _ ph e H kn _=>jm ph ops e H kn) (λops _ ph e H kn _=>cP ph ops e H kn) (λops _ ph e H kn _=>Heap.rec (motive:=λ_=>R) (λn _ _=>bQ ph n ops e H [] [] kn) H) (λops _ ph e H kn _=>Heap.rec (motive:=λ_=>R) (λn _ _=>dm ph n ops e H [] [] kn) H) (λ_ _ iha ihb fuel ph e H kn kx=>iha fuel ph e H (λe H=>ihb fuel ph e H kn kx) kx) (λc _ _ iha ihb fuel ph e H kn kx=>aJ c e λv=>eO 0 v λb=>aH b (iha fuel ph e H kn kx) (ihb fuel ph e H kn kx)) (λid _ iha fuel ph e H kn kx=>iha fuel ph e H kn λn e H=>aH (YR n (WN id)) (kn e H) (kx n e H)) (λ_ iha fuel ph e H _ kx=>Nat.rec (motive:=λ_=>Env->Heap->R) (λ_ _=>no 3) (λ_ ih e H=>iha fuel ph e H ih kx) fuel e H) (λid _ _ e H _ kx=>kx (WN id) e H) (λ_ _ e H _ kx=>kx 0 e H) (λg ps assign body _ ph e H kn kx=>aJ g e λg=>yC 0 g λf caps=>Nat.rec (motive:=λ_=>R) (cC H .mark λ_ H=>cC H (.loop 0 0 e ps assign body) λb H=>ph (.func f caps) [.sU b] H λ_ H=>dv H b λbl=>eU bl λst j e' ps' as' bo'=>Nat.rec (motive:=λ_=>R) (cZ 0 H b (.loop 3 j e' ps' as' bo') λH=>Nat.rec (motive:=λ_=>R) (kn e H) (λm _=>kx m e H) j) (λs _=>Nat.rec (motive:=λ_=>R) (no 10) (λ_ _=>cZ 0 H b (.loop 3 j e' ps' as' bo') λH=>Nat.rec (motive:=λ_=>R) (kn e H) (λm _=>kx m e H) j) s) st) (λ_ _=>no 14) (Yx f 2)) (λg ps assign body _ ph e H kn kx=>aJ g e λg=>yC 0 g λf caps=>Nat.rec (motive:=λ_=>R) (cC H (.loop 0 0 e ps assign body) λb H=>ph (.func f caps) [.sU b] H λ_ H=>dv H b λbl=>eU bl λst j e' ps' as' bo'=>Nat.rec (motive:=λ_=>R) (cZ 0 H b (.loop 3 j e' ps' as' bo') λH=>Nat.rec (motive:=λ_=>R) (kn e H) (λm _=>kx m e H) j) (λs _=>Nat.rec (motive:=λ_=>R) (no 10) (λ_ _=>cZ 0 H b (.loop 3 j e' ps' as' bo') λH=>Nat.rec (motive:=λ_=>R) (kn e H) (λm _=>kx m e H) j) s) st) (λ_ _=>no 14) (Yx f 2)) c
inductive dr where|nat(g:List V->Heap->K->R)|code(ps:List Slot)(res:List RV)(c:au)
noncomputable def adQ(r:RV)(e:Env)(H:Heap)(k:V->R):R:=RV.rec (motive:=λ_=>R) (λs=>jU s e k) (λs=>jU s e λv=>ej 0 v λb o=>nJ 0 H b o k) (λs n=>jU s e λv=>ej 0 v λb o=>eL 0 H b o n λl=>k (.agg l)) r
noncomputable def xu(l:List RV)(e:Env)(H:Heap):(List V->R)->R:=List.rec (motive:=λ_=>(List V->R)->R) (λk=>k []) (λr _ ih k=>adQ r e H λv=>ih λq=>k (v::q)) l
noncomputable def Jy(l:List V)(k:V->R):R:=List.rec (motive:=λ_=>R) (k (.cG [])) (λv r _=>List.rec (motive:=λ_=>R) (k v) (λ_ _ _=>k (.cG l)) r) l
noncomputable def gi(ps:List Slot):List V->Env->(Env->R)->R:=List.rec (motive:=λ_=>List V->Env->(Env->R)->R) (λl e k=>List.rec (motive:=λ_=>R) (k e) (λ_ _ _=>no 4) l) (λs _ ih l e k=>List.rec (motive:=λ_=>R) (no 5) (λv r _=>JF s v e λe'=>ih r e' k) l) ps
noncomputable def u0:V:=.cG []
noncomputable def u1:N8 V:=.mk u0 u0 u0 u0 u0 u0 u0 u0
noncomputable def u2:N8 (N8 V):=.mk u1 u1 u1 u1 u1 u1 u1 u1
noncomputable def Eo:Env:=.mk u2 u2 u2 u2 u2 u2 u2 u2
noncomputable def Vg(f:dr)(fuel:Nat)(ph:dg)(args:List V)(H:Heap)(k:K):R:=dr.rec (motive:=λ_=>R) (λg=>g args H k) (λps res c=>gi ps args Eo λe=>gG c fuel ph e H (λe H=>xu res e H λl=>Jy l λv=>k v H) λn e H=>Nat.rec (motive:=λ_=>R) (xu res e H λl=>Jy l λv=>k v H) (λ_ _=>no 6) n) f
noncomputable def Zv(cp:RC->au)(fuel:Nat)(ph:dg)(b:Nat)(args:List V)(H:Heap)(k:K):R:=dv H b λbl=>eU bl λst j e ps asL bo=>Nat.rec (motive:=λ_=>R) (gi ps args e λe1=>gG (cp asL) fuel ph e1 H (λe2 H=>dv H b λbl=>eU bl λst1 j1 e1 ps1 as1 bo1=>Nat.rec (motive:=λ_=>R) (cZ 0 H b (.loop 1 j1 e1 ps1 as1 bo1) λH=>gG (cp bo) fuel ph e2 H (λ_ H=>dv H b λbl=>eU bl λ_ _ e' ps' as' bo'=>cZ 0 H b (.loop 0 0 e' ps' as' bo') λH=>k (.bool true) H) λn _ H=>dv H b λbl=>eU bl λ_ _ e' ps' as' bo'=>cZ 0 H b (.loop 2 (WN n) e' ps' as' bo') λH=>k (.bool false) H) (λ_ _=>no 13) st1) (λ_ _ _=>no 11)) (λ_ _=>no 12) st
noncomputable def Iy(t:Nat->Option dr)(fuel:Nat)(ph:dg)(f:Nat)(args:List V)(H:Heap)(k:K):R:=av f λf=>Option.rec (motive:=λ_=>R) (no (100+f)) (λfn=>Vg fn fuel ph args H k) (t f)
noncomputable def aT(cp:RC->au)(t:Nat->Option dr)(fuel:Nat)(depth:Nat):dg:=Nat.rec (motive:=λ_=>dg) (λ_ _ _ _=>no 7) (λ_ ih x args H k=>V.rec (motive_1:=λ_=>R) (motive_2:=λ_=>R) (λ_ _=>no 0) (λ_=>no 0) (λ_ _=>no 0) (λ_ _=>no 0) (no 0) (λ_ _ _ _ _=>no 0) (no 0) (λ_=>no 0) (no 0) (λf caps _=>Nat.rec (motive:=λ_=>R) (jQ args caps λargs=>Iy t fuel ih (Wm f 2) args H k) (λ_ _=>jQ caps args λargs=>Iy t fuel ih (Wm f 2) args H k) (Yx f 2)) (λb=>Zv cp fuel ih b args H k) (no 0) (λ_ _ _=>no 0) (no 0) (λ_ _=>no 0) (λ_ _=>no 0) (0:R) (λ_ _ _ _=>(0:R)) x) depth
noncomputable def H0:Heap:=.mk 0 0 .e
end Go.Ev
end
section
namespace Go.Ev
section
variable(P:Program)
def jE(fid:Nat)(fn:Func):Option dr:=match fn.body with|some c=>if fn.ntmps<=512&&fn.params.size+fn.nfree<=fn.ntmps then match lu P fn.ntmps fn.results.toList with|some r=>some (.code ((WV (fn.params.size+fn.nfree)).map bj) r (iA P fn.ntmps fid false c))|none=>none else none|none=>none
end
noncomputable def KS(sl sn:Nat)(l:List V):(Nat->Nat->R)->R:=List.rec (motive:=λ_=>(Nat->Nat->R)->R) (λk=>k 0 0) (λv r ih k=>dZ 0 v λl n=>List.rec (motive:=λ_=>R) (k l n) (λ_ _ _=>ih λrl rn=>av (Yg l (Yg sl rl)) λtl=>av (Yg n (Yt (Yg sn (Yt rn (Ym 8 sl))) (Ym 8 l))) λtn=>k tl tn) r) l
noncomputable def pS(c b:Nat)(k:Nat->R):R:=av (YP1 (WC c 4) (YB0 (WC 9937593612760466100516450665319420528403982636753068485404800763335476026940182181175496972418787619281442302519629725716261212251300561153615832085954560 (Ym 32 (YB0 (YP1 c b) 15))) 4294967295)) k
noncomputable def vD(l:Nat):Nat->Nat->(Nat->R)->R:=Nat.rec (motive:=λ_=>Nat->Nat->(Nat->R)->R) (λ_ c k=>k c) (λ_ ih n c k=>av (Yx n 256) λb=>av (Wm n 256) λn'=>pS c b λc=>pS c (WC b 4) λc=>ih n' c k) l
def q8{α:Type}(i:I8)(t:N8 α)(x:α):N8 α:=match t with|.mk a0 a1 a2 a3 a4 a5 a6 a7=>match i with|.i0=>.mk x a1 a2 a3 a4 a5 a6 a7|.i1=>.mk a0 x a2 a3 a4 a5 a6 a7|.i2=>.mk a0 a1 x a3 a4 a5 a6 a7|.i3=>.mk a0 a1 a2 x a4 a5 a6 a7|.i4=>.mk a0 a1 a2 a3 x a5 a6 a7|.i5=>.mk a0 a1 a2 a3 a4 x a6 a7|.i6=>.mk a0 a1 a2 a3 a4 a5 x a7|.i7=>.mk a0 a1 a2 a3 a4 a5 a6 x
def kY(s:Slot)(v:V)(e:Env):Env:=match s with|.mk a b c=>q8 a e (q8 b (p8 a e) (q8 c (p8 b (p8 a e)) v))
theorem Sl{α}(i)(t)(k:α->R):g8 i t k=k (p8 i t):=by cases i<;>rfl
theorem T4{α}(i)(t)(f)(k:N8 α->R):u8 i t f k=f (p8 i t) λx=>k (q8 i t x):=by cases i<;>rfl
theorem K7{α}(i j)(t)(x:α):p8 i (q8 j t x)=if i=j then x else p8 i t:=by cases i<;>cases j<;>rfl
theorem eg(s)(e)(k):jU s e k=k (af s e):=by cases s with|mk a b c=>show g8 a e (λt=>g8 b t λu=>g8 c u k)=_;rw[Sl,Sl,Sl];rfl
theorem sG(s)(v)(e)(k):JF s v e k=k (kY s v e):=by cases s with|mk a b c=>show u8 a e (λt k1=>u8 b t (λu k2=>u8 c u (λ_ k3=>k3 v) k2) k1) k=_;rw[T4,T4,T4];rfl
theorem fk(s s')(v)(e):af s (kY s' v e)=if s=s' then v else af s e:=by cases s with|mk a b c=>cases s' with|mk a' b' c'=>
   simp only[af,kY,K7];by_cases h1:a=a'
   .subst h1;by_cases h2:b=b'
    .subst h2;by_cases h3:c=c';.simp[K7]
     .simp[h3,K7]
    .simp[h2,K7]
   simp_all
theorem Il{m n}(hm:m<8)(hn:n<8)(h:d8 m=d8 n):m=n:=by rcases(by omega:m=0\/m=1\/m=2\/m=3\/m=4\/m=5\/m=6\/m=7)with rfl|rfl|rfl|rfl|rfl|rfl|rfl|rfl<;>rcases(by omega:n=0\/n=1\/n=2\/n=3\/n=4\/n=5\/n=6\/n=7)with rfl|rfl|rfl|rfl|rfl|rfl|rfl|rfl<;>first|rfl|cases h
theorem fI{m n}(hm:m<512)(hn:n<512)(h:bj m=bj n):m=n:=by injection h with h1 h2 h3;have h1:=Il (by omega) (by omega) h1;have h2:=Il (by omega) (by omega) h2;have h3:=Il (by omega) (by omega) h3;omega
theorem TR.put{mu:M}{nt:Nat}{e:Env}{tmps:Array Value}(h:TR mu nt e tmps){d:Nat}{v:V}{c:Value}(hd:d<nt)(hv:VR mu v c):TR mu nt (kY (bj d) v e) (tmps.setIfInBounds d c):=by
 refine⟨by simpa using h.size,h.le,λt u ht=>?_,λt h1 h2=>by have hl:=h.le;rw[fk,if_neg λe=>by have:=fI (by omega) (by omega) e;omega];exact h.rest t h1 h2⟩;rw[fk];have hs:=h.size;have hl:=h.le;by_cases htd:t=d;.subst htd;rw[if_pos rfl];rw[Array.getElem?_setIfInBounds_self_of_lt (by omega)]at ht;cases ht;exact hv
 .rw[WW (Ne.symm htd)]at ht;have hlt:t<tmps.size:=by
   rcases Yf t tmps.size with h|h;.exact h
   .simp[Array.getElem?_eq_none h]at ht
  rw[if_neg λe=>htd (fI (by omega) (by omega) e)];exact h.get t u ht
theorem ax(n)(k):av n k=k n:=by cases n<;>rfl
theorem adW(t f):aH true t f=t:=rfl
theorem aci(t f):aH false t f=f:=rfl
theorem aU{c}{t}{n}(h:aH c t (no n)=1):c=true/\t=1:=by
 cases c;.exact(aw h).elim
 .exact⟨rfl,h⟩
theorem bV{c}{t f}(h:aH c t f=1):(c=true/\t=1)\/(c=false/\f=1):=by
 cases c;.exact YE ⟨rfl,h⟩
 .exact YH ⟨rfl,h⟩
theorem cH{a b:Nat}(h:YR a b=true):a=b:=Nat.eq_of_beq_eq_true h
theorem cB{a b:Nat}(h:Yb a b=true):a<=b:=Qw h
theorem eQ{a b}(h:WA a b=true):a<b:=Qw h
theorem dI{id}{x}{k}(h:cD id x k=1):(∃kd n,x=.int kd n/\k kd n=1):=by cases x<;>first|exact(aw h).elim|exact⟨_,_,rfl,h⟩
theorem mJ{id}{x}{k}(h:eO id x k=1):(∃b,x=.bool b/\k b=1):=by cases x<;>first|exact(aw h).elim|exact⟨_,rfl,h⟩
theorem eo{id}{x}{k}(h:dZ id x k=1):(∃l n,x=.str l n/\k l n=1):=by cases x<;>first|exact(aw h).elim|exact⟨_,_,rfl,h⟩
theorem fP{id}{x}{k}(h:ej id x k=1):(∃b o,x=.ptr b o/\k b o=1):=by cases x<;>first|exact(aw h).elim|exact⟨_,_,rfl,h⟩
theorem Oq{id}{x}{k}(h:lS id x k=1):(∃b o l c s,x=.slice b o l c s/\k b o l c s=1):=by cases x<;>first|exact(aw h).elim|exact⟨_,_,_,_,_,rfl,h⟩
theorem fJ{id}{x}{k}{z}(h:bD id x k z=1):(∃b o l c s,x=.slice b o l c s/\k b o l c s=1)\/(x=.aC/\z=1):=by cases x<;>first|exact(aw h).elim|exact YH ⟨_,_,_,_,_,rfl,h⟩|exact YE ⟨rfl,h⟩
theorem Lp{id}{x}{k}(h:GP id x k=1):(∃b,x=.map b/\k b=1):=by cases x<;>first|exact(aw h).elim|exact⟨_,rfl,h⟩
theorem GR{id}{x}{k}{z}(h:qI id x k z=1):(∃b,x=.map b/\k b=1)\/(x=.ve/\z=1):=by cases x<;>first|exact(aw h).elim|exact YH ⟨_,rfl,h⟩|exact YE ⟨rfl,h⟩
theorem GO{id}{x}{k}(h:yC id x k=1):(∃f l,x=.func f l/\k f l=1):=by cases x<;>first|exact(aw h).elim|exact⟨_,_,rfl,h⟩
theorem qm{id}{x}{k}(h:iT id x k=1):(∃l,x=.agg l/\k l=1):=by cases x<;>first|exact(aw h).elim|exact⟨_,rfl,h⟩
theorem abZ{id t}{x}{k}(h:vIf id t x k=1):∃v,x=.iface t v/\k v=1:=by
 cases x<;>first|exact(aw h).elim|skip
 have h':=h;rcases bV h' with⟨h1,h2⟩|⟨_,h2⟩;.simp_all
 .exact(aw h2).elim
theorem XC{id}{x}{k}(h:zK id x k=1):(∃l,x=.cG l/\k l=1):=by cases x<;>first|exact(aw h).elim|exact⟨_,rfl,h⟩
theorem tN{id}:∀{l}{i}{k},nth id l i k=1->∃v,l[i]?=some v/\k v=1|[],_,_,h=>(aw h).elim|v::l,0,_,h=>⟨v,rfl,h⟩|_::l,i+1,k,h=>by have h':nth id l i k=1:=h;obtain⟨v,h1,h2⟩:=tN h';simp_all
theorem kT{id}:∀{l}{n}{k},takeN id l n k=1->n<=l.length/\k (l.take n)=1|[],0,_,h=>⟨YC _,h⟩|[],_+1,_,h=>(aw h).elim|v::l,0,_,h=>⟨Ya _,h⟩|v::l,n+1,k,h=>by have h':takeN id l n (λr=>k (v::r))=1:=h;obtain⟨h1,h2⟩:=kT h';simp_all
theorem mh{id}:∀{l}{n}{k},fE id l n k=1->n<=l.length/\k (l.drop n)=1|[],0,_,h=>⟨YC _,h⟩|[],_+1,_,h=>(aw h).elim|v::l,0,_,h=>⟨Ya _,h⟩|v::l,n+1,k,h=>by have h':fE id l n k=1:=h;obtain⟨h1,h2⟩:=mh h';simp_all
theorem fu:∀(l m)(k),jQ l m k=k (l++m)|[],_,_=>rfl|v::l,m,k=>by show jQ l m (λr=>k (v::r))=_;rw[fu];rfl
theorem Co{id}:∀{m l}{k},over id m l k=1->m.length<=l.length/\k (m++l.drop m.length)=1|[],l,k,h=>⟨Ya _,by have h':k l=1:=h;simp_all⟩|x::m,[],_,h=>(aw h).elim|x::m,y::l,k,h=>by have h':over id m l (λq=>k (x::q))=1:=h;obtain⟨h1,h2⟩:=Co h';simp_all
theorem ym{id}{m}:∀{l}{i}{k},setAt id m l i k=1->i+m.length<=l.length/\k (l.take i++(m++l.drop (i+m.length)))=1|[],0,k,h=>by have h':over id m [] k=1:=h;obtain⟨h1,h2⟩:=Co h';simp_all|[],_+1,_,h=>(aw h).elim|v::l,0,k,h=>by have h':over id m (v::l) k=1:=h;obtain⟨h1,h2⟩:=Co h';simp_all|v::l,i+1,k,h=>by have h':setAt id m l i (λr=>k (v::r))=1:=h;obtain⟨h1,h2⟩:=ym h';rw[show i+1+m.length=(i+m.length)+1by omega];simp_all
theorem jV:∀l:List V,fA l=l.length|[]=>rfl|_::l=>by show WN (fA l)=_;rw[jV l];rfl
theorem Cz(m):∀(n)(k),W8 m n k=k (ij n m)|0,_=>rfl|n+1,k=>by show W8 m n (λr=>jQ m r k)=_;rw[Cz m n,fu];rfl
theorem xy{id}{x}{k}(h:dV id x k=1):x.one=true/\k=1:=by cases x<;>first|exact(aw h).elim|exact⟨rfl,h⟩
theorem fi{id}:∀{l}{k},bA id l k=1->(∀v∈l,v.one=true)/\k=1|[],_,h=>⟨λ_ hv=>absurd hv (by simp),h⟩|v::l,k,h=>by have h':dV id v (bA id l k)=1:=h;obtain⟨h1,h2⟩:=xy h';obtain⟨h3,h4⟩:=fi h2;simp_all
theorem Ol{id}{x}{k}(h:dN id x k=1):(∃l,x=.agg l/\k l=1)\/(x.one=true/\k [x]=1):=by cases x<;>first|exact(aw h).elim|exact YH ⟨_,rfl,h⟩|exact YE ⟨rfl,h⟩
theorem aK:∀(l n),(aD l n).length=l|0,_=>rfl|l+1,n=>by simp[aD,aK l]
theorem ru:∀(l n i),i<l->(aD l n)[i]?=some (UInt8.ofNat (n/256^i%256))|0,_,_,h=>absurd h (by omega)|l+1,n,0,_=>by simp[aD]|l+1,n,i+1,h=>by simp only[aD,QU];rw[ru l (n/256) i (by omega),YK1,Qa,Wt]
theorem toNat_byte(x):(UInt8.ofNat (x%256)).toNat=x%256:=by simp
theorem ny:∀(l n m),n%256^l=m%256^l->aD l n=aD l m
 |0,_,_,_=>rfl|l+1,n,m,h=>by
  rw[Qa]at h;have h1:=by have:=congrArg (·%256) h;simpa[Nat.mod_mul_left_mod]using this
  have h2:n/256%256^l=m/256%256^l:=by rw[Wt]at h;rw[<-YH0,<-YH0,h]
  simp only[aD,h1,ny l _ _ h2]
theorem fm:∀(a b n m),n<256^a->aD (a+b) (n+256^a*m)=aD a n++aD b m
 |0,b,n,m,h=>by
  have:n=0:=by omega
  subst this;simp[aD]|a+1,b,n,m,h=>by
  rw[Qa]at h⊢;have e1:(n+256^a*256*m)%256=n%256:=by rw[YO1,Nat.add_mul_mod_self_right]
  have e2:(n+256^a*256*m)/256=n/256+256^a*m:=by rw[YO1,Nat.add_mul_div_right _ _ (by simp)]
  rw[show a+1+b=(a+b)+1by omega];simp only[aD,e1,e2,YK];rw[fm a b (n/256) m (YF4 (by omega))]
theorem js:∀(i l n),i<=l->(aD l n).drop i=aD (l-i) (n/256^i)|0,l,n,_=>by simp|i+1,0,n,h=>absurd h (by omega)|i+1,l+1,n,h=>by simp only[aD,List.drop_succ_cons];rw[js i l (n/256) (by omega),YK1,Qa,Wt 256,show l+1-(i+1)=l-i by omega]
theorem jt:∀(i l n),i<=l->(aD l n).take i=aD i n|0,l,n,_=>by rfl|i+1,0,n,h=>absurd h (by omega)|i+1,l+1,n,h=>by simp[aD,jt i l (n/256) (by omega)]
theorem Gp:∀l:Nat,aD l 0=YZ l 0|0=>rfl|l+1=>by simp[aD,Gp l,List.replicate_succ]
theorem iM:∀l:List UInt8,enc l<256^l.length|[]=>by simp[enc]|x::l=>by have:=iM l;have hx:=x.toNat_lt;simp only[enc,YG,Qa];omega
theorem fH:∀l:List UInt8,aD l.length (enc l)=l|[]=>rfl|x::l=>by have hx:=x.toNat_lt;simp only[enc,YG,aD];rw[show(x.toNat+256*enc l)%256=x.toNat by omega,show(x.toNat+256*enc l)/256=enc l by omega,fH l];simp
theorem mU:∀(l n),n<256^l->enc (aD l n)=n|0,n,h=>by simp at h;simp[aD,enc,h]|l+1,n,h=>by simp only[aD,enc,toNat_byte];rw[mU l (n/256) (YF4 (by omega))];omega
theorem rv{l m n}(hm:m<256^l)(hn:n<256^l)(h:aD l m=aD l n):m=n:=by rw[<-mU l m hm,h,mU l n hn]
def eC(x:UInt8):V:=.int 4 x.toNat
theorem pC{id}:∀{l}{k},iB id l k=1->∃n,k l.length n=1/\(∀v∈l,∃x,v=.int 4 x)/\((∀v∈l,∀x,v=.int 4 x->x<256)->l=(aD l.length n).map eC/\n<256^l.length)
 |[],k,h=>⟨0,h,λ_ hv=>absurd hv (by simp),λ_=>⟨rfl,by simp⟩⟩|v::l,k,h=>by
  have h':cD id v (λkd x=>aH (YR kd 4) (iB id l λlen n=>av (Yg x (Ym 256 n)) λn'=>av (WN len) λlen'=>k len' n') (no _))=1:=h;obtain⟨kd,x,rfl,h1⟩:=dI h';obtain⟨h2,h3⟩:=aU h1;have:=cH h2;subst this;obtain⟨n,h4,h40,h5⟩:=pC h3;rw[ax,ax]at h4;refine⟨_,h4,λv hv=>(YS.1 hv).elim (λe=>⟨_,e⟩) (h40 v),λha=>?_⟩;obtain⟨h6,h7⟩:=h5 λv hv=>ha v (YI _ hv);have hlt:=ha _ (YL ..) _ rfl;simp only[YG,aD,Qa];have e1:(x.add (Ym 256 n))%256=x:=by show(x+256*n)%256=x;omega
  have e2:(x.add (Ym 256 n))/256=n:=by show(x+256*n)/256=n;omega
  rw[e1,e2];refine⟨?_,by omega⟩;simp only[YN,eC];rw[<-h6];simp[WE hlt]
theorem iS:∀(len n)(k),qk len n k=k ((aD len n).map eC)|0,_,_=>rfl|len+1,n,k=>by show av (Yx n 256) (λx=>av (Wm n 256) λn'=>qk len n' λr=>k (.int 4 x::r))=_;rw[ax,ax,iS];simp only[aD,YN,eC,toNat_byte];rfl
open Go.RowKit
theorem aW(H)(b)(k):dv H b k=k (H.get b):=by rfl
theorem mP{id}{bl}{kc}{kb}(h:uc id bl kc kb=1):(∃l,bl=.cells l/\kc l=1)\/∃len n,bl=.bytes len n/\kb len n=1:=by cases bl<;>first|exact(aw h).elim|exact YH ⟨_,rfl,h⟩|exact YE ⟨_,_,rfl,h⟩
theorem vA{id}{bl}{k}(h:rP id bl k=1):∃es,bl=.map es/\k es=1:=by cases bl<;>first|exact(aw h).elim|exact⟨_,rfl,h⟩
theorem l5{bl}{k}(h:eU bl k=1):∃st j e ps asL bo,bl=.loop st j e ps asL bo/\k st j e ps asL bo=1:=by cases bl<;>first|exact(aw h).elim|exact⟨_,_,_,_,_,_,rfl,h⟩
structure OJ(H:Heap)(b:Nat)(x:eB)(H':Heap):Prop where
 lt:b<H.n
 n:H'.n=H.n
 bF:H'.bF<=H.bF
 wb:H'.bF<=b
 get:H'.get b=x
 vQ:∀j,j≠b->H'.get j=H.get j
theorem ic{id}{H}{b}{x}{k}(h:cZ id H b x k=1):∃H',k H'=1/\OJ H b x H':=by cases H with|mk n bF t=>
  have h':=h;obtain⟨h1,h2⟩:=aU h';obtain⟨t',h3,h4,h5⟩:=HT.JG _ _ _ h2;rcases bV h3 with⟨h6,h7⟩|⟨h6,h7⟩;.exact⟨_,h7,eQ h1,rfl,YC _,cB h6,h4,h5⟩
  .have:b<bF:=by
    rcases Yf b bF with h|h;.omega
    .rw[WU h]at h6;cases h6
   exact⟨_,h7,eQ h1,rfl,Qb this,YC _,h4,h5⟩
structure nZ(H:Heap)(x:eB)(H':Heap):Prop where
 n:H'.n=H.n+1bF:H'.bF=H.bF
 get:H'.get H.n=x
 vQ:∀j,j≠H.n->H'.get j=H.get j
theorem dE{H}{x}{k}(h:cC H x k=1):∃H',k H.n H'=1/\nZ H x H':=by cases H with|mk n bF t=>have h':=h;obtain⟨t',h3,h4,h5⟩:=HT.JG _ _ _ h';exact⟨_,h3,rfl,rfl,h4,h5⟩
def rowOf:eB->Option (List V)|.cells l=>some l|.bytes len n=>some ((aD len n).map eC)|_=>none
theorem acf(x):(eC x).one=true:=rfl
theorem toI_u8(x)(h:x<256):toI .u8 x=x:=by show IntKind.u8.wrap (x:Int)=x;simp[IntKind.wrap,IntKind.bits,IntKind.signed];omega
theorem vv(mu)(x):VR mu (eC x) (.int .u8 x.toNat):=by
 have h:=x.toNat_lt;refine⟨?_,?_,by omega⟩;.show Value.int .u8 _=Value.int .u8 (toI .u8 _);rw[toI_u8 _ (by omega)]
 .show _<2^IntKind.u8.bits;simp[IntKind.bits];omega
theorem gI{bl}{row}(h:rowOf bl=some row):bl.alive/\bl≠.mark:=by cases bl<;>simp[rowOf]at h<;>exact⟨trivial,by simp⟩
theorem Xd{P}{mu}{bl}{row}{o}(h:rowOf bl=some row)(hb:BR P mu bl o):∃c e fr,o=.cells c e fr/\jz mu row c fr:=by cases bl with|cells l=>simp only[rowOf,Option.some.injEq]at h;subst h;obtain⟨c,e,fr,h1,h2,_⟩:=hb;exact⟨c,e,fr,h1,h2⟩|bytes len n=>simp only[rowOf,Option.some.injEq]at h;subst h;obtain⟨c,e,fr,h1,⟨_,h2⟩,h3⟩:=hb;refine⟨c,e,fr,h1,λi v hi=>?_,h3⟩;simp only[Yq,Yh]at hi;obtain⟨x,hx,rfl⟩:=hi;exact⟨rfl,_,h2 i x hx,vv mu x⟩|_=>simp[rowOf]at h
section
variable{P:Program}{base:Nat}{w0 w w':World}{rho:Nat->Option Nat}{H H':Heap}
theorem PR.row(h:PR P base w0 rho H w){b c:Nat}{row:List V}(hr:rho b=some c)(hrow:rowOf (H.get b)=some row):∃cs e fr,w.heap[c]?=some (.cells cs e fr)/\jz (mu rho H w) row cs fr:=by obtain⟨o,h1,h2⟩:=h.cV b c hr;obtain⟨cs,e,fr,rfl,h3⟩:=Xd hrow h2;exact⟨cs,e,fr,h1,h3⟩
theorem PR.aeJ(h:PR P base w0 rho H w){b c:Nat}{l:List V}(hr:rho b=some c)(hb:H.get b=.cells l){cs:Array Value}{e:TypeId}{fr:Nat×Nat}(hw:w.heap[c]?=some (.cells cs e fr)):¬(fr.1<=cs.size/\cs.size<fr.2):=by obtain⟨o,h1,h2⟩:=h.cV b c hr;rw[hb]at h2;obtain⟨c',e',fr',rfl,_,h3⟩:=h2;rw[hw]at h1;cases h1;exact h3
theorem PR.lR(h:PR P base w0 rho H w){b c:Nat}{row:List V}(hm:(mu rho H w).b b c)(hrow:rowOf (H.get b)=some row):rho b=some c:=hm.2 (gI hrow).1
theorem tO{v}{c}{m}(h:VR m v c)(ho:v.one=true):c.oneCell'=true:=by obtain⟨h1,h2⟩:=h.one ho;cases c<;>first|rfl|rfl|simp_all
theorem PR.cell(h:PR P base w0 rho H w){b c i:Nat}{row:List V}{v:V}(hr:rho b=some c)(hrow:rowOf (H.get b)=some row)(hi:row[i]?=some v):∃cv,w.cell? ⟨c,i,none⟩=some cv/\VR (mu rho H w) v cv/\v.one=true:=by obtain⟨cs,e,fr,h1,h2,h3⟩:=h.row hr hrow;obtain⟨h4,cv,h5,h6⟩:=h2 i v hi;exact⟨cv,by simp[World.cell?,h1,h5],h6,h4⟩
theorem jz.le{mu:M}{row:List V}{cs:Array Value}{fr:Nat×Nat}(h:jz mu row cs fr):row.length<=cs.size:=by
 rcases Yf cs.size row.length with hlt|hge;.obtain⟨_,cv,h2,_⟩:=h.1 cs.size _ (YA hlt);simp at h2
 .exact hge
theorem jz.vrs{mu:M}{row:List V}{cs:Array Value}{fr:Nat×Nat}(h:jz mu row cs fr){o n:Nat}(hn:o+n<=row.length):bZ mu ((row.drop o).take n) ((cs.toList.drop o).take n):=by
 have hle:=h.le;refine bZ.pB (by simp;omega) λi v c h1 h2=>?_;rw[Yy]at h1 h2;split at h1;.rename_i hi;rw[if_pos hi]at h2;rw[WG]at h1 h2;obtain⟨_,cv,h3,h4⟩:=h.1 _ _ h1;rw[Yr]at h2;rw[h3]at h2;cases h2;exact h4
 .cases h1
theorem PR.cells(h:PR P base w0 rho H w){b c o n:Nat}{row:List V}(hr:rho b=some c)(hrow:rowOf (H.get b)=some row)(hn:o+n<=row.length):∃cs:List Value,(loadCells ⟨c,o,none⟩ n).run P w=.ok cs.toArray w/\bZ (mu rho H w) ((row.drop o).take n) cs/\cs.length=n:=by
 obtain⟨cs,e,fr,h1,h2⟩:=h.row hr hrow;have hle:=h2.le;refine⟨(cs.toList.drop o).take n,?_,h2.vrs hn,by simp;omega⟩;have hl:((cs.toList.drop o).take n).length=n:=by simp;omega
 have:=run_loadCells_list (P:=P) w ⟨c,o,none⟩ ((cs.toList.drop o).take n) (λj v hv=>by
  rw[Addr.add_lit];rw[Yy]at hv;split at hv;.rw[WG,Yr]at hv;simp[World.cell?,h1,hv]
  .cases hv);rwa[hl]at this
theorem ik{g o}{t}{fr}:∀(vs)(i)(cur)(w),w.heap[g]?=some (.cells cur t fr)->o+i+vs.length<=cur.size->(∀v∈vs,v.oneCell'=true)->(∀j,j<cur.size->¬(fr.1<=j/\j<fr.2))->∃w' cur',(storeCells ⟨g,o,none⟩ vs i).run P w=.ok () w'/\w'.heap[g]?=some (.cells cur' t fr)/\cur'.size=cur.size/\(∀j:Nat,cur'[j]?=if o+i<=j/\j<o+i+vs.length then vs[j-(o+i)]?else cur[j]?)/\(∀j,j≠g->w'.heap[j]?=w.heap[j]?)/\w'.heap.size=w.heap.size/\Hp w w'
 |[],i,cur,w,hg,_,_,_=>⟨w,cur,rfl,hg,rfl,λj=>by rw[if_neg (by simp)],λ_ _=>rfl,rfl,rfl,rfl,rfl⟩|v::vs,i,cur,w,hg,hl,hv,hfr=>by
  simp only[YG]at hl;have hlt:o+i<cur.size:=by omega
  have hcell:w.cell? ⟨g,o+i,none⟩=some cur[o+i]:=by simp[World.cell?,hg,hlt]
  have hfz:w.frozen? ⟨g,o+i,none⟩=false:=by have:=hfr (o+i) hlt;simp only[World.frozen?,hg];simp_all
  have hg':(w.setCell ⟨g,o+i,none⟩ v).heap[g]?=some (.cells (cur.setIfInBounds (o+i) v) t fr):=by simp[World.setCell,QB,hg]
  obtain⟨w',cur',h1,h2,h3,h4,h5,h6,h7⟩:=ik (o:=o) vs (i+1) _ _ hg' (by simp;omega) (λu hu=>hv u (YI _ hu)) (by simp_all);refine⟨w',cur',?_,h2,by simp_all,λj=>?_,λj hj=>?_,?_,?_⟩;.simp only[storeCells,Sem.run_bind,Addr.add_lit,run_store P w _ v .plain (hv v (YL ..)),hcell,hfz];simp_all
  .rw[h4];simp only[YG];by_cases hj:j=o+i;.subst hj;rw[if_neg (by omega),if_pos (by omega)];simp_all
   .by_cases hj2:o+(i+1)<=j/\j<o+(i+1)+vs.length;.rw[if_pos hj2,if_pos (by omega),show j-(o+i)=(j-(o+(i+1)))+1by omega];simp
    .rw[if_neg hj2,if_neg (by omega),WW (λe=>hj e.symm)]
  .rw[h5 j hj];simp[World.setCell,QB,Ne.symm hj]
  .simp_all
  .exact⟨h7.os,h7.tape,h7.output⟩
theorem xJ{id b off}{k}(h:nJ id H b off k=1):∃row v,rowOf (H.get b)=some row/\row[off]?=some v/\k v=1:=by
 unfold nJ at h;rw[aW]at h;rcases mP h with⟨l,hb,h1⟩|⟨len,n,hb,h1⟩;.obtain⟨v,h2,h3⟩:=tN h1;exact⟨l,v,by rw[hb];rfl,h2,h3⟩
 .obtain⟨h2,h3⟩:=aU h1;have hlt:=eQ h2;rw[ax]at h3;refine⟨_,eC (UInt8.ofNat (n/256^off%256)),by rw[hb];rfl,by rw[Yq,ru _ _ _ hlt];rfl,?_⟩;have e:YB0 (WC n (Ym 8 off)) 255=n/256^off%256:=by show(n>>>(8*off))&&&255=_;rw[WD,QT,show(255:Nat)=2^8-1by rfl,QS]
  rw[e]at h3;simpa[eC]using h3
theorem pg{id b off n}{k}(h:eL id H b off n k=1):∃row,rowOf (H.get b)=some row/\off+n<=row.length/\k ((row.drop off).take n)=1:=by
 unfold eL at h;rw[aW]at h;rcases mP h with⟨l,hb,h1⟩|⟨len,m,hb,h1⟩;.obtain⟨h2,h3⟩:=mh h1;obtain⟨h4,h5⟩:=kT h3;refine⟨l,by rw[hb];rfl,by simp at h4;omega,h5⟩
 .obtain⟨h2,h3⟩:=aU h1;have hle:off+n<=len:=cB h2;rw[iS]at h3;refine⟨_,by rw[hb];rfl,by simpa[aK]using hle,?_⟩;have e:WC m (Ym 8 off)=m/256^off:=by show m>>>(8*off)=_;rw[WD,QT]
  rw[e]at h3;rw[<-YF3,<-YB1,js _ _ _ (by omega),jt _ _ _ (by omega)];omega
def nM:eB->Option (List V)|.view l=>some l|bl=>rowOf bl
theorem F4{bl}{row}(h:nM bl=some row):bl.alive:=by cases bl<;>simp[nM,rowOf]at h<;>trivial
theorem PR.agB(h:PR P base w0 rho H w){b c:Nat}{row:List V}(hr:rho b=some c)(hrow:nM (H.get b)=some row):∃cs e fr,w.heap[c]?=some (.cells cs e fr)/\∀(i:Nat)(v:V),row[i]?=some v->(v.one=true\/rowOf (H.get b)=some row)->v.one=true/\(∃cv,cs[i]?=some cv/\VR (mu rho H w) v cv)/\¬(fr.1<=i/\i<fr.2):=by
 by_cases ho:rowOf (H.get b)=some row;.obtain⟨cs,e,fr,h1,h2⟩:=h.row hr ho;refine⟨cs,e,fr,h1,λi v hi _=>?_⟩;obtain⟨h3,cv,h4,h5⟩:=h2.1 i v hi;exact⟨h3,⟨cv,h4,h5⟩,h2.2 i (YO.1 h4).1⟩
 .obtain⟨o,h1,h2⟩:=h.cV b c hr
  cases hb:H.get b with|view l=>rw[hb]at h2 hrow;simp only[nM,Option.some.injEq]at hrow;subst hrow;obtain⟨cs,e,fr,rfl,h3⟩:=h2;exact⟨cs,e,fr,h1,λi v hi hv=>by
    rcases hv with hv|hv;.exact⟨hv,h3 i v hi hv⟩
    .simp [rowOf]at hv⟩|_=>rw[hb]at hrow ho;exact absurd hrow ho
theorem PR.yg(h:PR P base w0 rho H w){b c:Nat}{row:List V}(hm:(mu rho H w).b b c)(hrow:nM (H.get b)=some row):rho b=some c:=hm.2 (F4 hrow)
theorem PR.Tm(h:PR P base w0 rho H w){b c i:Nat}{row:List V}{v:V}(hr:rho b=some c)(hrow:nM (H.get b)=some row)(hi:row[i]?=some v)(ho:v.one=true\/rowOf (H.get b)=some row):∃cv,w.cell? ⟨c,i,none⟩=some cv/\VR (mu rho H w) v cv/\v.one=true/\w.frozen? ⟨c,i,none⟩=false:=by obtain⟨cs,e,fr,h1,h2⟩:=h.agB hr hrow;obtain⟨h3,⟨cv,h4,h5⟩,h6⟩:=h2 i v hi ho;exact⟨cv,by simp[World.cell?,h1,h4],h5,h3,by simp only[World.frozen?,h1];simpa using h6⟩
theorem PR.Jt(h:PR P base w0 rho H w){b c o n:Nat}{row:List V}(hr:rho b=some c)(hrow:nM (H.get b)=some row)(hn:o+n<=row.length)(ho:(∀v∈(row.drop o).take n,v.one=true)\/rowOf (H.get b)=some row):∃cs:List Value,(loadCells ⟨c,o,none⟩ n).run P w=.ok cs.toArray w/\bZ (mu rho H w) ((row.drop o).take n) cs/\cs.length=n/\∀(j:Nat)(cv:Value),cs[j]?=some cv->w.cell? ⟨c,o+j,none⟩=some cv/\cv.oneCell'=true/\w.frozen? ⟨c,o+j,none⟩=false:=by
 have key:∀j,j<n->∃(v:V)(cv:Value),row[o+j]?=some v/\w.cell? ⟨c,o+j,none⟩=some cv/\VR (mu rho H w) v cv/\cv.oneCell'=true/\w.frozen? ⟨c,o+j,none⟩=false:=λj hj=>by have hi:row[o+j]?=some row[o+j]:=YA (by omega);have ho':row[o+j].one=true\/rowOf (H.get b)=some row:=ho.imp (λh=>h _ (by refine Yk (i:=j) ?_;rw[Yy,if_pos hj,WG];exact hi)) id;obtain⟨cv,a1,a2,a3,a4⟩:=h.Tm hr hrow hi ho';exact⟨_,cv,hi,a1,a2,tO a2 a3,a4⟩
 let cs:List Value:=(WV n).map λj=>(w.cell? ⟨c,o+j,none⟩).getD undef;have hcs:∀(j:Nat)(cv:Value),cs[j]?=some cv->j<n/\w.cell? ⟨c,o+j,none⟩=some cv:=λj cv hj=>by
  have hlt:j<n:=by have:=(List.getElem?_eq_some_iff.1 hj).1;simpa[cs]using this
  obtain⟨v,cv',_,a1,_⟩:=key j hlt;refine⟨hlt,?_⟩;simp only[cs,Yq,List.getElem?_range hlt,Option.map_some,a1,YU,Option.some.injEq]at hj;rw[a1,hj]
 have hl:cs.length=n:=by simp[cs]
 refine⟨cs,?_,?_,hl,λj cv hj=>?_⟩;.have:=run_loadCells_list (P:=P) w ⟨c,o,none⟩ cs (λj v hv=>by rw[Addr.add_lit];exact(hcs j v hv).2);rwa[hl]at this
 .refine bZ.pB (by simp[cs];omega) λi v cv h1 h2=>?_;obtain⟨hi,h3⟩:=hcs i cv h2;obtain⟨v',cv',a1,a2,a3,_⟩:=key i hi;rw[Yy,if_pos hi,WG,a1]at h1;cases h1;rw[h3]at a2;cases a2;exact a3
 .obtain⟨hj',h3⟩:=hcs j cv hj;obtain⟨v',cv',a1,a2,a3,a4,a5⟩:=key j hj';rw[h3]at a2;cases a2;exact⟨h3,a4,a5⟩
theorem Ph{id}{bl}{kc}{kb}{kv}(h:bRd id bl kc kb kv=1):(∃l,bl=.cells l/\kc l=1)\/(∃len n,bl=.bytes len n/\kb len n=1)\/∃l,bl=.view l/\kv l=1:=by cases bl<;>first|exact(aw h).elim|exact YH ⟨_,rfl,h⟩|exact YE (YH ⟨_,_,rfl,h⟩)|exact YE (YE ⟨_,rfl,h⟩)
theorem AE{id}{v}{k}(h:dV id v k=1):v.one=true/\k=1:=by cases v<;>first|exact(aw h).elim|exact⟨rfl,h⟩
theorem wv{id}:∀{l}{k},bA id l k=1->(∀v∈l,v.one=true)/\k=1|[],k,h=>⟨λ_ h=>absurd h (by simp),h⟩|v::l,k,h=>by obtain⟨h1,h2⟩:=AE (show dV id v (bA id l k)=1from h);obtain⟨h3,h4⟩:=wv h2;simp_all
theorem Tn{id b off}{k}(h:Lc id H b off k=1):∃row v,nM (H.get b)=some row/\row[off]?=some v/\(v.one=true\/rowOf (H.get b)=some row)/\k v=1:=by
 unfold Lc at h;rw[aW]at h;rcases Ph h with⟨l,hb,h1⟩|⟨len,n,hb,h1⟩|⟨l,hb,h1⟩;.obtain⟨row,v,h2,h3,h4⟩:=xJ (id:=id) (by unfold nJ;rw[aW,hb];exact h1);rw[hb]at h2;exact⟨row,v,by rw[hb];exact h2,h3,YE (by simp_all),h4⟩
 .obtain⟨row,v,h2,h3,h4⟩:=xJ (id:=id) (by unfold nJ;rw[aW,hb];exact h1);rw[hb]at h2;exact⟨row,v,by rw[hb];exact h2,h3,YE (by simp_all),h4⟩
 .obtain⟨v,h2,h3⟩:=tN h1;obtain⟨h4,h5⟩:=AE h3;exact⟨l,v,by rw[hb];rfl,h2,YH h4,h5⟩
theorem Ju{id b off n}{k}(h:FP id H b off n k=1):∃row,nM (H.get b)=some row/\off+n<=row.length/\((∀v∈(row.drop off).take n,v.one=true)\/rowOf (H.get b)=some row)/\k ((row.drop off).take n)=1:=by
 unfold FP at h;rw[aW]at h;rcases Ph h with⟨l,hb,h1⟩|⟨len,m,hb,h1⟩|⟨l,hb,h1⟩;.obtain⟨row,h2,h3,h4⟩:=pg (by unfold eL;rw[aW,hb];exact h1);rw[hb]at h2;exact⟨row,by rw[hb];exact h2,h3,YE (by simp_all),h4⟩
 .obtain⟨row,h2,h3,h4⟩:=pg (id:=id) (by unfold eL;rw[aW,hb];exact h1);rw[hb]at h2;exact⟨row,by rw[hb];exact h2,h3,YE (by simp_all),h4⟩
 .obtain⟨h2,h3⟩:=mh h1;obtain⟨h4,h5⟩:=kT h3;obtain⟨h6,h7⟩:=wv h5;exact⟨l,by rw[hb];rfl,by simp at h4;omega,YH h6,h7⟩
def Bm(l:List V)(x:Nat):Prop:=l=(aD l.length x).map eC/\x<256^l.length
def Bn(l:List V):Prop:=∀v∈l,∀x,v=.int 4 x->x<256
theorem xI{id b off n}{k}(h:mv id H b off n k=1):∃row x,rowOf (H.get b)=some row/\off+n<=row.length/\k x=1/\(∀v∈(row.drop off).take n,∃x,v=.int 4 x)/\(Bn ((row.drop off).take n)->Bm ((row.drop off).take n) x):=by
 unfold mv at h;rw[aW]at h;rcases mP h with⟨l,hb,h1⟩|⟨len,m,hb,h1⟩;.obtain⟨h2,h3⟩:=mh h1;obtain⟨h4,h5⟩:=kT h3;obtain⟨x,h6,h60,h7⟩:=pC h5;exact⟨l,x,by rw[hb];rfl,by simp at h4;omega,h6,h60,h7⟩
 .obtain⟨h2,h3⟩:=aU h1;have hle:off+n<=len:=cB h2;rw[ax]at h3;refine⟨_,_,by rw[hb];rfl,by simpa[aK]using hle,h3,λv hv=>?_,λ_=>?_⟩;.rw[<-YF3,<-YB1]at hv;obtain⟨y,_,rfl⟩:=List.mem_map.1 hv;exact⟨_,rfl⟩
  have e:Yx (WC m (Ym 8 off)) (YD4 256 n)=m/256^off%256^n:=by show(m>>>(8*off))%256^n=_;rw[WD,QT]
  rw[e];have hl:(((aD len m).map eC).drop off|>.take n).length=n:=by simp[aK];omega
  refine⟨?_,by rw[hl];omega⟩;rw[hl,<-YF3,<-YB1,js _ _ _ (by omega),jt _ _ _ (by omega)];congr 1;exact ny _ _ _ (by simp)
theorem VR.Vn{m:M}{x:Nat}{c:Value}(h:VR m (.int 4 x) c):x<256/\c=.int .u8 x:=by simp only[VR]at h;obtain⟨h1,h2,_⟩:=h;have h3:x<256:=h2;exact⟨h3,h1.trans (by show Value.int .u8 (toI .u8 x)=_;rw[toI_u8 x h3])⟩
theorem bZ.mem{m:M}{l:List V}{cs:List Value}(h:bZ m l cs){v:V}(hv:v∈l):∃c∈cs,VR m v c:=by obtain⟨i,hi⟩:=QH hv;obtain⟨c,h1,h2⟩:=h.get hi;exact⟨c,Yk h1,h2⟩
theorem bZ.small{m:M}{l:List V}{cs:List Value}(h:bZ m l cs):Bn l:=λv hv x e=>by obtain⟨c,_,h2⟩:=h.mem hv;subst e;exact h2.Vn.1
theorem zH{len x off ml mx:Nat}(hx:x<256^len)(hm:mx<256^ml)(hl:off+ml<=len):aD len (Yg (Yx x (YD4 256 off)) (Yt (Yg mx (Yt (WC x (Ym 8 (Yg off ml))) (Ym 8 ml))) (Ym 8 off)))=(aD len x).take off++(aD ml mx++(aD len x).drop (off+ml))/\Yg (Yx x (YD4 256 off)) (Yt (Yg mx (Yt (WC x (Ym 8 (Yg off ml))) (Ym 8 ml))) (Ym 8 off))<256^len:=by
 have e1:WC x (Ym 8 (Yg off ml))=x/256^(off+ml):=by show x>>>(8*(off+ml))=_;rw[WD,QT]
 have e2:∀y k,Yt y (Ym 8 k)=256^k*y:=λy k=>by show y<<<(8*k)=_;rw[Qm,QT,Wt]
 rw[e1,e2,e2];show aD len (x%256^off+256^off*(mx+256^ml*(x/256^(off+ml))))=_/\x%256^off+256^off*(mx+256^ml*(x/256^(off+ml)))<_;have hp:0<256^off:=Nat.pow_pos (by simp);have hmod:x%256^off<256^off:=Qk _ hp;have hd:=by apply YF4;rw[<-YG0,show off+ml+(len-off-ml)=len by omega];omega
 constructor;.have:=fm off (ml+(len-off-ml)) (x%256^off) (mx+256^ml*(x/256^(off+ml))) hmod;rw[show off+(ml+(len-off-ml))=len by omega]at this;rw[this,fm ml _ _ _ hm,jt _ _ _ (by omega),js _ _ _ hl,show len-(off+ml)=len-off-ml by omega];rw[ny off (x%256^off) x (by simp)]
 .have h1:=by calc mx+256^ml*(x/256^(off+ml))<256^ml+256^ml*(x/256^(off+ml)):=by omega
    _=256^ml*(x/256^(off+ml)+1):=by rw[YL4,Wa,YG3]
    _<=256^ml*256^(len-off-ml):=YA3 _ hd
  calc x%256^off+256^off*(mx+256^ml*(x/256^(off+ml)))<256^off+256^off*(mx+256^ml*(x/256^(off+ml))):=by omega
   _=256^off*(mx+256^ml*(x/256^(off+ml))+1):=by rw[YL4 _ _ 1,Wa,YG3]
   _<=256^off*(256^ml*256^(len-off-ml)):=YA3 _ h1
   _=256^len:=by rw[<-YG0,<-YG0];congr 1;omega
theorem jz.TN{mu:M}{row m:List V}{cs cs':Array Value}{ms:List Value}{fr:Nat×Nat}{o:Nat}(h:jz mu row cs fr)(hm:bZ mu m ms)(h1:∀v∈m,v.one=true)(hl:o+m.length<=row.length)(hsz:cs'.size=cs.size)(hg:∀j:Nat,cs'[j]?=if o+0<=j/\j<o+0+ms.length then ms[j-(o+0)]?else cs[j]?):jz mu (row.take o++(m++row.drop (o+m.length))) cs' fr:=by
 refine⟨λi v hi=>?_,by rw[hsz];exact h.2⟩;have hml:=hm.length;rw[hg];by_cases hi1:i<o;.rw[Yp (by simp;omega),Yy,if_pos hi1]at hi;rw[if_neg (by omega)];exact h.1 i v hi
 .rw[Yl (by simp;omega)]at hi;rw[show(row.take o).length=o by simp;omega]at hi;by_cases hi2:i-o<m.length;.rw[Yp hi2]at hi;rw[if_pos (by omega)];obtain⟨c,h2,h3⟩:=hm.get hi;exact⟨h1 v (Yk hi),c,by simpa using h2,h3⟩
  .rw[Yl (by omega),WG,show o+m.length+(i-o-m.length)=i by omega]at hi;rw[if_neg (by omega)];exact h.1 i v hi
theorem CY{mm}{m}{ms}(hv:bZ mm m ms)(hone:∀v∈m,v.one=true):∀u∈ms,u.oneCell'=true:=λu hu=>by
 obtain⟨i,hi⟩:=QH hu;have hlt:i<m.length:=by
  rw[<-hv.length];rcases Yf i ms.length with h|h;.omega
  simp_all
 obtain⟨c',h3,h4⟩:=hv.get (YA hlt);rw[hi]at h3;cases h3;exact tO h4 (hone _ (List.getElem_mem hlt))
theorem yr{id b off}{m}{k}(h1:dS id H b off m k=1):∀v∈m,v.one=true:=by
 unfold dS at h1;rw[aW]at h1;rcases mP h1 with⟨l,hb,h2⟩|⟨len,x,hb,h2⟩;.exact(fi h2).1
 .obtain⟨mx,h3,h30,h4⟩:=pC h2;exactλv hv=>by obtain⟨x,rfl⟩:=h30 v hv;rfl
end
abbrev WF(rd:Option Nat):Fence:={fn:=λ_=>True,depth:=none,alive:=false,round:=rd}
def aA(a:Arg)(e:Env):V:=match a with|.s s=>af s e|.c v=>v
theorem aq(a)(e)(k):aJ a e k=k (aA a e):=by cases a with|s s=>exact eg s e k|c v=>rfl
theorem ib:∀(l)(e)(k),oT l e k=k (l.map (aA · e))|[],_,_=>rfl|a::l,e,k=>by show aJ a e (λv=>oT l e λr=>k (v::r))=_;rw[aq,ib];rfl
theorem qQ{mu}{v}{u}(h:mS v=some u):VR mu u v/\u.one=true:=by
 unfold mS at h;split at h;.cases h;exact⟨by rfl,rfl⟩
 .rename_i k n;split at h
  .rename_i hw;have hw':=by simpa using hw
   cases h;refine⟨?_,rfl⟩;have hm0:0<=n%(2^k.bits:Nat):=Int.emod_nonneg _ (by cases k<;>decide);have hm1:n%(2^k.bits:Nat)<(2^k.bits:Nat):=Int.emod_lt_of_pos _ (by omega);simp only[VR,dF];refine⟨?_,?_,xC k⟩
   .congr 1;show n=k.wrap _;rw[Int.toNat_of_nonneg hm0];conv=>lhs;rw[<-hw']
    unfold IntKind.wrap;simp
   .unfold fq;omega
  simp_all
 .cases h;refine⟨?_,rfl⟩;simp only[VR];rw[fH];exact⟨rfl,iM _⟩
 all_goals first|(cases h;exact⟨by rfl,rfl⟩)|cases h
theorem mg{mu}:∀{l}{r},consts l=some r->bZ mu r l/\∀u∈r,u.one=true
 |[],r,h=>by simp only[consts,Option.some.injEq]at h;subst h;exact⟨by rfl,λ_ h=>absurd h (by simp)⟩|v::l,r,h=>by
  simp only[consts]at h;split at h;.rename_i u r' h1 h2;cases h;obtain⟨h3,h4⟩:=qQ h1;obtain⟨h5,h6⟩:=mg h2;exact⟨by exact⟨v,l,rfl,h3,h5⟩,λx hx=>(YS.1 hx).elim (λe=>e▸h4) (h6 x)⟩
  simp_all
theorem tm{mu}{v}{u}(h:BC v=some u):VR mu u v:=by
 unfold BC at h;split at h;.simp only[Yh]at h;obtain⟨r,h1,rfl⟩:=h;exact⟨_,rfl,(mg h1).1⟩
 .simp only[Yh]at h;obtain⟨r,h1,rfl⟩:=h;exact⟨_,rfl,(mg h1).1⟩
 .exact(qQ h).1
theorem kB{mu}{nt}{e}{a:Act}{x}{ar}(ht:TR mu nt e a.tmps)(h:aL nt x=some ar):VR mu (aA ar e) (a.eval x):=by
 unfold aL at h;split at h
 .rename_i t;split at h
  .cases h;have hs:=ht.size;have hlt':t<a.tmps.size:=by simp_all
   have hex:=Array.getElem?_eq_getElem hlt';have:=ht.get t _ hex;simpa[aA,Act.eval,hex]using this
  simp_all
 .simp only[Yh]at h;obtain⟨u,h1,rfl⟩:=h;exact tm h1
 .cases h;simp only[aA,Act.eval,VR];exact⟨#[],by simp,by rfl⟩
 simp_all
def OR(mu:M)(nt:Nat)(e:Env)(a:Act)(o:Oper):Prop:=∀x∈o.op.operands,∀ar,aL nt x=some ar->VR mu (aA ar e) (a.eval x)
theorem TR.or{mu:M}{nt:Nat}{e:Env}{a:Act}(h:TR mu nt e a.tmps)(o:Oper):OR mu nt e a o:=λ_ _ _ h1=>kB h h1
def Left(P:Program)(base:Nat)(w0:World)(rho:Nat->Option Nat)(H:Heap)(w:World)(v:V)(H':Heap)(cv:Value)(w':World):Prop:=∃rho',VR (mu rho' H' w') v cv/\PR P base w0 rho' H' w'/\Ext rho H w rho' H' w'
def eZ(P:Program)(nt:Nat)(o:Oper)(e:Env)(H:Heap)(v:V)(H':Heap):Prop:=∀(rd:Option Nat)(base:Nat)(w0:World)(rho:Nat->Option Nat)(w:World)(a:Act),PR P base w0 rho H w->OR (mu rho H w) nt e a o->o.wpIn (WF rd) 0 P a w (λa' w'=>∃cv,a'=a.put o.dst cv/\Left P base w0 rho H w v H' cv w') (λ_ _ _=>False)
def FSp(P:Program)(x:V)(args:List V)(H:Heap)(v:V)(H':Heap):Prop:=∀(rd:Option Nat)(base:Nat)(w0:World)(rho:Nat->Option Nat)(w:World)(cx:Value)(cargs:Array Value),PR P base w0 rho H w->VR (mu rho H w) x cx->bZ (mu rho H w) args cargs.toList->∀(o:Oper)(a:Act),o.uponIn (WF rd) 0 P a (λa' w'=>∃cv,a'=a.put o.dst cv/\Left P base w0 rho H w v H' cv w') (λ_ _ _=>False) ((do let d<-Deferred.ofValue cx cargs;invoke d.target d.args:Sem Next).run P w)
def iv(P:Program)(f:FuncId)(args:List V)(H:Heap)(v:V)(H':Heap):Prop:=∀(base:Nat)(w0:World)(rho:Nat->Option Nat)(w:World)(cargs:Array Value),PR P base w0 rho H w->bZ (mu rho H w) args cargs.toList->(callFunc f cargs).run P w=.ok (.enter f cargs) w/\CallsIn (WF none) 0 P f cargs w λe w'=>∃cv,e=.returned cv/\Left P base w0 rho H w v H' cv w'
def FSq(P:Program)(x:V)(args:List V)(H:Heap)(v:V)(H':Heap):Prop:=FSp P x args H v H'/\∀f caps,x=.func (2*f) caps->iv P f (args++caps) H v H'
def jb(P:Program)(ph:dg):Prop:=∀x args H k,ph x args H k=1->∃v H',FSq P x args H v H'/\k v H'=1
theorem iD(P)(o:Oper)(a:Act)(w)(rd):∀f,o.about P w a.eval=some f->(WF rd).fn f:=λ_ _=>trivial
theorem semAt_eq{o}{rd}{r}(h:∀c,o.op≠.defer c):o.semAt rd r=execOp r o:=by unfold Oper.semAt;simp_all
theorem eZ.of_run{P:Program}{nt:Nat}{o:Oper}{e:Env}{H H':Heap}{v:V}(hnd:∀c,o.op≠.defer c)(h:∀(base:Nat)(w0:World)(rho:Nat->Option Nat)(w:World)(a:Act),PR P base w0 rho H w->OR (mu rho H w) nt e a o->∃cv w',(execOp a.eval o).run P w=.ok (.value cv) w'/\Left P base w0 rho H w v H' cv w'):eZ P nt o e H v H':=by intro rd base w0 rho w a hp ho;obtain⟨cv,w',h1,h2⟩:=h base w0 rho w a hp ho;refine⟨iD P o a w rd,?_⟩;rw[semAt_eq hnd,h1];exact⟨cv,rfl,h2⟩
theorem eZ.Cg{P:Program}{nt:Nat}{o:Oper}{e:Env}{H H':Heap}(hnd:∀c,o.op≠.defer c)(h:∀(base:Nat)(w0:World)(rho:Nat->Option Nat)(w:World)(a:Act),PR P base w0 rho H w->OR (mu rho H w) nt e a o->∃w',(execOp a.eval o).run P w=.ok .skip w'/\∃rho',PR P base w0 rho' H' w'/\Ext rho H w rho' H' w'):eZ P nt o e H (.cG []) H':=by intro rd base w0 rho w a hp ho;obtain⟨w',h1,rho',h2,h3⟩:=h base w0 rho w a hp ho;refine⟨iD P o a w rd,?_⟩;rw[semAt_eq hnd,h1];exact⟨undef,rfl,rho',by simp only[VR];exact⟨#[],rfl,by simp only[bZ]⟩,h2,h3⟩
theorem eZ.bJ{P:Program}{nt:Nat}{o:Oper}{e:Env}{H:Heap}{v:V}(hnd:∀c,o.op≠.defer c)(h:∀(m:M)(w:World)(a:Act),OR m nt e a o->∃cv,(execOp a.eval o).run P w=.ok (.value cv) w/\VR m v cv):eZ P nt o e H v H:=eZ.of_run hnd λbase w0 rho w a hp ho=>by obtain⟨cv,h1,h2⟩:=h _ w a ho;exact⟨cv,w,h1,rho,h2,hp,Ext.refl hp.lt⟩
section
variable{P:Program}{nt:Nat}{o:Oper}{id:Nat}{ph:dg}{e:Env}{H:Heap}{k:K}
def Good(P:Program)(nt:Nat)(o:Oper)(e:Env)(H:Heap)(k:K):Prop:=∃v H',eZ P nt o e H v H'/\k v H'=1
theorem Tv{x}(hop:o.op=.move x\/o.op=.assign x)(h:aQ (ai P nt o) id ph e H k=1):Good P nt o e H k:=by
 have hc:ai P nt o=match aL nt x with|some a=>.gU a|none=>.bad:=by rcases hop with h|h<;>simp only[ai,h]<;>rfl
 rw[hc]at h;split at h;.rename_i a ha;have h':aJ a e (λv=>k v H)=1:=h;rw[aq]at h';refine⟨_,_,eZ.bJ (by rcases hop with h|h<;>simp[h]) λm w ac ho=>?_,h'⟩;exact⟨ac.eval x,by rcases hop with h|h<;>simp[execOp,h],ho x (by rcases hop with h|h<;>simp[Op.operands,h]) a ha⟩
 .exact(aw h).elim
theorem abM{c x y}(hop:o.op=.pick c x y)(h:aQ (ai P nt o) id ph e H k=1):Good P nt o e H k:=by
 simp only[ai,hop]at h;split at h
 .rename_i c' x' y' hc hx hy;have h':aJ c' e (λc=>eO id c λb=>aH b (aJ x' e λv=>k v H) (aJ y' e λv=>k v H))=1:=h;rw[aq]at h';obtain⟨b,hb,h2⟩:=mJ h';rw[aq,aq]at h2;cases b;.refine⟨_,_,eZ.bJ (by simp_all) λm w ac ho=>?_,h2⟩;have h3:=ho c (by simp[Op.operands,hop]) c' hc;rw[hb]at h3;simp only[VR]at h3;exact⟨ac.eval y,by simp[execOp,hop,h3,asBool],ho y (by simp[Op.operands,hop]) y' hy⟩
  .refine⟨_,_,eZ.bJ (by simp_all) λm w ac ho=>?_,h2⟩;have h3:=ho c (by simp[Op.operands,hop]) c' hc;rw[hb]at h3;simp only[VR]at h3;exact⟨ac.eval x,by simp[execOp,hop,h3,asBool],ho x (by simp[Op.operands,hop]) x' hx⟩
 .exact(aw h).elim
end
end Go.Ev
end
section
namespace Go.Ev
theorem fM(m n:Nat):YR m n=decide (m=n):=by
 by_cases h:m=n;.simp_all
 .rw[decide_eq_false h];cases hq:YR m n with|false=>rfl|true=>simp_all
theorem Uh(k:IntKind)(x):k.wrap x%(2^k.bits:Int)=x%(2^k.bits:Int):=by cases k<;>simp only[IntKind.wrap,IntKind.bits,IntKind.signed,YN4,Qn]<;>(simp)<;>omega
theorem rE(k:IntKind){x y}(h:x%(2^k.bits:Int)=y%(2^k.bits:Int)):k.wrap x=k.wrap y:=by unfold IntKind.wrap;rw[h]
theorem acm(k):((fq k:Nat):Int)=2^k.bits:=by rfl
theorem pM(k){x}{n:Nat}(h:x%(2^k.bits:Int)=(n:Int)%(2^k.bits:Int)):k.wrap x=toI k n:=rE k h
theorem toI_mod(k)(n):toI k n%(2^k.bits:Int)=(n:Int)%(2^k.bits:Int):=Uh k _
theorem xB(k):0<fq k:=by cases k<;>decide
theorem toI_small(k)(n)(h:n<half k):toI k n=n:=by show k.wrap (n:Int)=n;cases k<;>simp only[half,IntKind.wrap,IntKind.bits,IntKind.signed,YN4,Qn,if_true,YT,if_false]at*<;>(simp)<;>first|omega|(simp at h2)|rfl
theorem toI_off(k)(n)(h:n<fq k):toI k n=(((n+dX k)%2^k.bits:Nat):Int)-(dX k:Nat):=by show k.wrap (n:Int)=_;cases k<;>simp[dX,IntKind.wrap,IntKind.bits,IntKind.signed]at*<;>(omega)<;>omega
theorem toI_inj(k){a b}(ha:a<fq k)(hb:b<fq k)(h:toI k a=toI k b):a=b:=by have h1:=toI_mod k a;rw[h,toI_mod k b]at h1;have e1:(a:Int)%2^k.bits=a:=YI1 (by omega) (by exact_mod_cast ha);have e2:(b:Int)%2^k.bits=b:=YI1 (by omega) (by exact_mod_cast hb);omega
theorem toI_64{n}{kd}(hk:3<=kd)(hk8:kd<8)(h:n<9223372036854775808)(hm:n<fq (pe kd)):toI (pe kd) n=n:=by refine toI_small _ _ ?_;rcases(by omega:kd=3\/kd=4\/kd=5\/kd=6\/kd=7)with rfl|rfl|rfl|rfl|rfl<;>simp[pe,half,IntKind.signed,IntKind.bits,fq]at*<;>omega
theorem uf(k){a}(h:a<fq k):BitVec.ofInt k.bits (toI k a)=BitVec.ofNat k.bits a:=by apply BitVec.eq_of_toNat_eq;rw[BitVec.toNat_ofInt,BitVec.toNat_ofNat];have:=toI_mod k a;rw[show((2^k.bits:Nat):Int)=(2:Int)^k.bits by simp,this];rfl
section
variable{P:Program}{w:World}
theorem Pk{t:TypeId}{op:BinOp}{k ky:IntKind}{f:BF}{id a b:Nat}{c:Nat->R}(hf:aam op k=some f)(hky:(si op=false/\ky=k)\/(si op=true/\(ky.signed=true->ky.bits=64)))(h:gv id f a b c=1):∃r,c r=1/\(a<fq k->b<fq ky->r<fq k/\∀w:World,(binOp op t (.int k (toI k a)) (.int ky (toI ky b))).run P w=.ok (.int k (toI k r)) w):=by
 have hM:(0:Int)<2^k.bits:=by cases k<;>decide
 have hMn:fq k=2^k.bits:=rfl;have hpos:=xB k;have am:=toI_mod k a;cases op<;>simp only[aam,Option.some.injEq,reduceCtorEq]at hf<;>subst hf
 .rcases hky with⟨_,rfl⟩|⟨hs,_⟩;.have bm:=toI_mod ky b;have h':av (Yx (Yg a b) (2^ky.bits)) c=1:=h;rw[ax]at h';refine⟨_,h',λha hb=>⟨Qk _ hpos,λw=>?_⟩⟩;simp only[binOp,ne_eq,not_true_eq_false,if_false,Op.intArith,Sem.run_pure];congr 2;refine pM ky ?_;rw[Int.add_emod,am,bm,<-Int.add_emod];show _=(((a+b)%2^ky.bits:Nat):Int)%_;simp
  .cases hs
 .rcases hky with⟨_,rfl⟩|⟨hs,_⟩;.have bm:=toI_mod ky b;have h':av (Yx (Yg a (QO (2^ky.bits) b)) (2^ky.bits)) c=1:=h;rw[ax]at h';refine⟨_,h',λha hb=>⟨Qk _ hpos,λw=>?_⟩⟩;simp only[binOp,ne_eq,not_true_eq_false,if_false,Op.intArith,Sem.run_pure];congr 2;refine pM ky ?_;rw[Int.sub_emod,am,bm,<-Int.sub_emod];show _=(((a+(2^ky.bits-b))%2^ky.bits:Nat):Int)%_;have hb':b<2^ky.bits:=hb;rw[Int.natCast_emod,Int.natCast_add,Int.natCast_sub (Qb hb')];simp only[Int.natCast_pow,Int.cast_ofNat_Int,Int.emod_emod_of_dvd _ (Int.dvd_refl _)];rw[show(a:Int)+(2^ky.bits-(b:Int))=((a:Int)-b)+2^ky.bits by omega,Int.add_emod_right]
  .cases hs
 .rcases hky with⟨_,rfl⟩|⟨hs,_⟩;.have bm:=toI_mod ky b;have h':av (Yx (Ym a b) (2^ky.bits)) c=1:=h;rw[ax]at h';refine⟨_,h',λha hb=>⟨Qk _ hpos,λw=>?_⟩⟩;simp only[binOp,ne_eq,not_true_eq_false,if_false,Op.intArith,Sem.run_pure];congr 2;refine pM ky ?_;rw[YK2,am,bm,<-YK2];show _=(((a*b)%2^ky.bits:Nat):Int)%_;simp
  .cases hs
 .rcases hky with⟨_,rfl⟩|⟨hs,_⟩
  .have h':aH (WA a (half ky)) (aH (WA b (half ky)) (aH (YR b 0) (no _) (av (Wm a b) c)) (no _)) (no _)=1:=h;obtain⟨h1,h2⟩:=aU h';obtain⟨h3,h4⟩:=aU h2;rcases bV h4 with⟨_,h5⟩|⟨h5,h6⟩;.exact(aw h5).elim
   .rw[ax]at h6;have hb0:b≠0:=λe=>by subst e;cases h5
    have ha':=eQ h1;have hdv:a/b<half ky:=Wv (YL1 a b) ha';refine⟨_,h6,λha hb=>⟨Wv (YL1 a b) ha,λw=>?_⟩⟩;rw[toI_small ky a ha',toI_small ky b (eQ h3)];have hz:(b:Int)≠0:=by omega
    simp only[binOp,ne_eq,not_true_eq_false,if_false,Op.intDiv,hz,Sem.run_pure];congr 2
  .cases hs
 .rcases hky with⟨_,rfl⟩|⟨hs,_⟩
  .have h':aH (WA a (half ky)) (aH (WA b (half ky)) (aH (YR b 0) (no _) (av (Yx a b) c)) (no _)) (no _)=1:=h;obtain⟨h1,h2⟩:=aU h';obtain⟨h3,h4⟩:=aU h2;rcases bV h4 with⟨_,h5⟩|⟨h5,h6⟩;.exact(aw h5).elim
   .rw[ax]at h6;have hb0:b≠0:=λe=>by subst e;cases h5
    have ha':=eQ h1;have hdv:a%b<half ky:=Wv (Nat.mod_le a b) ha';refine⟨_,h6,λha hb=>⟨Wv (Nat.mod_le a b) ha,λw=>?_⟩⟩;rw[toI_small ky a ha',toI_small ky b (eQ h3)];have hz:(b:Int)≠0:=by omega
    simp only[binOp,ne_eq,not_true_eq_false,if_false,Op.intDiv,hz,Sem.run_pure];congr 2;show(a:Int).tmod (b:Int)=toI ky (a%b);rw[toI_small ky _ hdv];rfl
  .cases hs
 .rcases hky with⟨_,rfl⟩|⟨hs,_⟩;.have h':av (YB0 a b) c=1:=h;rw[ax]at h';refine⟨_,h',λha hb=>⟨Wv YR1 ha,λw=>?_⟩⟩;simp only[binOp,ne_eq,not_true_eq_false,if_false,Op.intBits,uf ky ha,uf ky hb,Sem.run_pure];congr 2;show ky.wrap _=toI ky (a&&&b);rw[BitVec.toNat_and,BitVec.toNat_ofNat,BitVec.toNat_ofNat,WE (show a<2^ky.bits from ha),WE (show b<2^ky.bits from hb)];rfl
  .cases hs
 .rcases hky with⟨_,rfl⟩|⟨hs,_⟩;.have h':av (Nat.lor a b) c=1:=h;rw[ax]at h';refine⟨_,h',λha hb=>⟨Nat.or_lt_two_pow (n:=ky.bits) ha hb,λw=>?_⟩⟩;simp only[binOp,ne_eq,not_true_eq_false,if_false,Op.intBits,uf ky ha,uf ky hb,Sem.run_pure];congr 2;show ky.wrap _=toI ky (a|||b);rw[BitVec.toNat_or,BitVec.toNat_ofNat,BitVec.toNat_ofNat,WE (show a<2^ky.bits from ha),WE (show b<2^ky.bits from hb)];rfl
  .cases hs
 .rcases hky with⟨_,rfl⟩|⟨hs,_⟩;.have h':av (YP1 a b) c=1:=h;rw[ax]at h';refine⟨_,h',λha hb=>⟨Nat.xor_lt_two_pow (n:=ky.bits) ha hb,λw=>?_⟩⟩;simp only[binOp,ne_eq,not_true_eq_false,if_false,Op.intBits,uf ky ha,uf ky hb,Sem.run_pure];congr 2;show ky.wrap _=toI ky (a^^^b);rw[BitVec.toNat_xor,BitVec.toNat_ofNat,BitVec.toNat_ofNat,WE (show a<2^ky.bits from ha),WE (show b<2^ky.bits from hb)];rfl
  .cases hs
 .rcases hky with⟨hs,_⟩|⟨_,hk⟩;.cases hs
  have hbs:∀(hb:b<fq ky)(hlt:b<9223372036854775808),toI ky b=b:=λhb hlt=>by
   refine toI_small _ _ ?_;unfold half fq at*;split;.rename_i hs;rw[hk hs];omega
   .exact hb
  have hbits:k.bits<=64:=by cases k<;>decide
  have h':aH (Yb b k.bits) (av (Yx (Yt a b) (2^k.bits)) c) (aH (WA b 9223372036854775808) (c 0) (no _))=1:=h;rcases bV h' with⟨h1,h2⟩|⟨h1,h2⟩
  .have hle:=cB h1;rw[ax]at h2;refine⟨_,h2,λha hb=>⟨Qk _ hpos,λw=>?_⟩⟩;have hn:¬((b:Int)<0):=by omega
   simp only[binOp,Op.shift,hbs hb (by omega),hn,if_false,Sem.run_pure,Qy,Wf hle];congr 2;refine pM k ?_;rw[YK2,am,<-YK2];show _=(((a<<<b)%2^k.bits:Nat):Int)%_;rw[Qm];simp
  .obtain⟨h3,h4⟩:=aU h2;have hgt:k.bits<=b:=by
    rcases Yf k.bits b with hlt|hge;.omega
    .rw[WU hge]at h1;cases h1
   refine⟨0,h4,λha hb=>⟨hpos,λw=>?_⟩⟩;have hn:¬((b:Int)<0):=by omega
   simp only[binOp,Op.shift,hbs hb (eQ h3),hn,if_false,Sem.run_pure,Qy,Qo hgt];congr 2;refine pM k ?_;simp
 .rcases hky with⟨hs,_⟩|⟨_,hk⟩;.cases hs
  have hbs:∀(hb:b<fq ky)(hlt:b<9223372036854775808),toI ky b=b:=λhb hlt=>by
   refine toI_small _ _ ?_;unfold half fq at*;split;.rename_i hs;rw[hk hs];omega
   .exact hb
  have hbits:k.bits<=64:=by cases k<;>decide
  have h':aH (WA a (half k)) (aH (Yb b k.bits) (av (WC a b) c) (aH (WA b 9223372036854775808) (c 0) (no _))) (no _)=1:=h;obtain⟨h0,h0'⟩:=aU h';have ha':=eQ h0;have hn:¬((b:Int)<0):=by omega
  rcases bV h0' with⟨h1,h2⟩|⟨h1,h2⟩
  .have hle:=cB h1;rw[ax]at h2;have hsm:a>>>b<=a:=by rw[WD];exact YL1 _ _
   refine⟨_,h2,λha hb=>⟨Wv hsm ha,λw=>?_⟩⟩;simp only[binOp,Op.shift,hbs hb (by omega),hn,if_false,Sem.run_pure,Qy,Wf hle,toI_small k a ha'];congr 2;show(a:Int).fdiv (2^b)=toI k (a>>>b);rw[toI_small k _ (Wv hsm ha'),WD,YH1 _ (by exact_mod_cast Ya (2^b))];simp
  .obtain⟨h3,h4⟩:=aU h2;have hgt:k.bits<=b:=by
    rcases Yf k.bits b with hlt|hge;.omega
    .rw[WU hge]at h1;cases h1
   refine⟨0,h4,λha hb=>⟨hpos,λw=>?_⟩⟩;simp only[binOp,Op.shift,hbs hb (eQ h3),hn,if_false,Sem.run_pure,Qy,Qo hgt,toI_small k a ha'];congr 2;show(a:Int).fdiv (2^k.bits)=toI k 0;rw[toI_small k 0 (by cases k<;>decide),YH1 _ (by exact_mod_cast Ya (2^k.bits))];have:(a:Int)<2^k.bits:=by exact_mod_cast(show a<2^k.bits from ha)
   rw[Int.ediv_eq_zero_of_lt (by omega) this];rfl
 .rcases hky with⟨_,rfl⟩|⟨hs,_⟩;.have h':av (YB0 a (YP1 b (Nat.pred (2^ky.bits)))) c=1:=h;rw[ax]at h';refine⟨_,h',λha hb=>⟨Wv YR1 ha,λw=>?_⟩⟩;simp only[binOp,ne_eq,not_true_eq_false,if_false,Op.intBits,uf ky ha,uf ky hb,Sem.run_pure];congr 2;show ky.wrap _=toI ky (a&&&(b^^^(2^ky.bits-1)));rw[<-BitVec.xor_allOnes,BitVec.toNat_and,BitVec.toNat_xor,BitVec.toNat_allOnes,BitVec.toNat_ofNat,BitVec.toNat_ofNat,WE (show a<2^ky.bits from ha),WE (show b<2^ky.bits from hb)];rfl
  .cases hs
theorem adG{t}{op}{k}{f}{a b}(hf:aaH op k=some f)(ha:a<fq k)(hb:b<fq k):(binOp op t (.int k (toI k a)) (.int k (toI k b))).run P w=.ok (.bool (dW f a b)) w:=by
 have oa:=toI_off k a ha;have ob:=toI_off k b hb;have hinj:toI k a=toI k b↔a=b:=⟨toI_inj k ha hb,λe=>by rw[e]⟩;have hbeq:=by exact fM a b
 have hblt:∀m n,WA m n=decide (m<n):=λm n=>by
  by_cases h:m<n;.simp_all
  .rw[decide_eq_false h];cases hq:WA m n with|false=>rfl|true=>exact absurd (eQ hq) h
 have hble:∀m n,Yb m n=decide (m<=n):=λm n=>by
  by_cases h:m<=n;.simp_all
  .rw[decide_eq_false h];cases hq:Yb m n with|false=>rfl|true=>exact absurd (cB hq) h
 cases op<;>simp only[aaH,Option.some.injEq,reduceCtorEq]at hf<;>subst hf<;>simp only[binOp,ne_eq,not_true_eq_false,if_false,Op.intCmp,Sem.run_pure];.congr 2;show(toI k a==toI k b)=YR a b;rw[hbeq];by_cases h:a=b<;>simp[h,hinj]
 .congr 2;show(toI k a !=toI k b)=Bool.rec true false (YR a b);rw[hbeq];by_cases h:a=b<;>simp[h,hinj]
 .congr 2;show decide (toI k a<toI k b)=WA ((a+dX k)%2^k.bits) ((b+dX k)%2^k.bits);rw[hblt,oa,ob];congr 1;exact propext ⟨λh=>by omega,λh=>by omega⟩
 .congr 2;show decide (toI k a<=toI k b)=Yb ((a+dX k)%2^k.bits) ((b+dX k)%2^k.bits);rw[hble,oa,ob];congr 1;exact propext ⟨λh=>by omega,λh=>by omega⟩
 .congr 2;show decide (toI k a>toI k b)=WA ((b+dX k)%2^k.bits) ((a+dX k)%2^k.bits);rw[hblt,oa,ob];congr 1;exact propext ⟨λh=>by omega,λh=>by omega⟩
 .congr 2;show decide (toI k a>=toI k b)=Yb ((b+dX k)%2^k.bits) ((a+dX k)%2^k.bits);rw[hble,oa,ob];congr 1;exact propext ⟨λh=>by omega,λh=>by omega⟩
theorem abS{l m n}(hm:m<256^l)(hn:n<256^l):((⟨(aD l m).toArray⟩:ByteArray).toList==(⟨(aD l n).toArray⟩:ByteArray).toList)=YR m n:=by
 have hbeq:=by exact fM m n
 rw[hbeq];by_cases h:m=n;.simp_all
 .rw[decide_eq_false h];simp only[beq_eq_false_iff_ne,ne_eq];intro e;rw[ByteArray.toList_eq,ByteArray.toList_eq]at e;exact h (rv hm hn (by omega))
end
end Go.Ev
end
section
set_option maxRecDepth 10000
namespace Go.Ev
open Go.RowKit
section
variable{P:Program}{nt:Nat}{o:Oper}{id:Nat}{ph:dg}{e:Env}{H:Heap}{k:K}
theorem abL{x}(hop:o.op=.nilCheck x)(h:aQ (ai P nt o) id ph e H k=1):Good P nt o e H k:=by
 simp only[ai,hop]at h;split at h
 .rename_i a ha;have h':aJ a e _=1:=h;rw[aq]at h';have key:k (aA a e) H=1/\aA a e≠.py/\aA a e≠.rf/\aA a e≠.Fy:=by generalize aA a e=v at h';cases v<;>first|exact(aw h').elim|simp_all
  refine⟨_,_,eZ.bJ (by simp_all) λm w ac ho=>?_,key.1⟩;have h3:=ho x (by simp[Op.operands,hop]) a ha;refine⟨ac.eval x,?_,h3⟩;obtain⟨_,h4,h5,h6⟩:=key;generalize aA a e=v at h3 h4 h5 h6;cases v<;>simp only[VR]at h3<;>first|exact absurd rfl h4|exact absurd rfl h5|exact absurd rfl h6|(simp[execOp,hop,h3];done)|rfl|(obtain⟨c,h3,_⟩:=h3;simp[execOp,hop,h3])|(obtain⟨c,d,o,sp,h3,_⟩:=h3;simp[execOp,hop,h3])
 .exact(aw h).elim
theorem nN{op}{t}{x y}{k1 k2}{a b}{w}:(eqGuard op t x y (.int k1 a) (.int k2 b)).run P w=.ok () w:=by unfold eqGuard;simp
theorem nO{op}{t}{x y}{a b}{w}:(eqGuard op t x y (.string a) (.string b)).run P w=.ok () w:=by unfold eqGuard;simp
theorem BK{kd ky}{f}{x y}(h:MJ kd ky f x y id ph e H k=1):∃a b,aA x e=.int kd a/\aA y e=.int ky b/\gv id f a b (λr=>k (.int kd r) H)=1:=by unfold MJ at h;rw[aq]at h;obtain⟨k1,a,ha,h1⟩:=dI h;rw[aq]at h1;obtain⟨k2,b,hb,h2⟩:=dI h1;obtain⟨h3,h4⟩:=aU h2;obtain⟨h5,h6⟩:=aU h4;simp_all
def nc:V->Option Nat|.bool true=>some 2|.bool false=>some 3|.ptr _ _=>some 11|.py=>some 10|.slice _ _ _ _ _=>some 21|.aC=>some 20|.map _=>some 31|.ve=>some 30|.func _ _=>some 41|.rf=>some 40|.iface _ _=>some 51|.Fy=>some 50|_=>none
theorem Fz{x}{k}(h:gf id x k=1):∃c,nc x=some c/\k c=1:=by cases x<;>first|exact(aw h).elim|exact⟨_,rfl,h⟩|(rename_i b;cases b<;>exact⟨_,rfl,h⟩)
theorem U6{kc}{neg}{x y}(h:U5 kc neg x y id ph e H k=1):∃a b,nc (aA x e)=some a/\nc (aA y e)=some b/\a/10=kc/\b/10=kc/\(a=b->a%10≠1)/\k (.bool (if neg then !decide (a=b)else decide (a=b))) H=1:=by
 unfold U5 at h;rw[aq]at h;obtain⟨a,h1,h2⟩:=Fz h;rw[aq]at h2;obtain⟨b,h3,h4⟩:=Fz h2;obtain⟨h5,h6⟩:=aU h4;obtain⟨h7,h8⟩:=aU h6;refine⟨a,b,h1,h3,cH h5,cH h7,?_⟩;rcases bV h8 with⟨h9,h10⟩|⟨h9,h10⟩
 .have e:=cH h9;subst e;rcases bV h10 with⟨_,h11⟩|⟨h11,h12⟩;.exact(aw h11).elim
  .rw[fM]at h11;have h11':=of_decide_eq_false h11;refine⟨λ_=>h11',?_⟩;rcases bV h12 with⟨h13,h14⟩|⟨h13,h14⟩<;>subst h13<;>simpa using h14
 .rw[fM]at h9;simp_all
theorem SK{x}{a}(h:nc x=some a)(hk:a/10=1):(x=.py/\a=10)\/∃b o,x=.ptr b o/\a=11:=by cases x<;>simp only[nc,Option.some.injEq,reduceCtorEq]at h<;>(simp)<;>first|exact YH ⟨rfl,rfl⟩|exact YE ⟨_,_,rfl,rfl⟩|omega|(rename_i q;cases q<;>simp only[Option.some.injEq]at h<;>subst h<;>simp at hk)
theorem Fu{x}{a}(h:nc x=some a)(hk:a/10=2):(x=.aC/\a=20)\/∃b o l c s,x=.slice b o l c s/\a=21:=by cases x<;>simp only[nc,Option.some.injEq,reduceCtorEq]at h<;>(simp)<;>first|exact YH ⟨rfl,rfl⟩|exact YE ⟨_,_,_,_,_,rfl,rfl⟩|omega|(rename_i q;cases q<;>simp only[Option.some.injEq]at h<;>subst h<;>simp at hk)
theorem SJ{x}{a}(h:nc x=some a)(hk:a/10=3):(x=.ve/\a=30)\/∃b,x=.map b/\a=31:=by cases x<;>simp only[nc,Option.some.injEq,reduceCtorEq]at h<;>(simp)<;>first|exact YH ⟨rfl,rfl⟩|exact YE ⟨_,rfl,rfl⟩|omega|(rename_i q;cases q<;>simp only[Option.some.injEq]at h<;>subst h<;>simp at hk)
theorem K1{x}{a}(h:nc x=some a)(hk:a/10=4):(x=.rf/\a=40)\/∃f l,x=.func f l/\a=41:=by cases x<;>simp only[nc,Option.some.injEq,reduceCtorEq]at h<;>(simp)<;>first|exact YH ⟨rfl,rfl⟩|exact YE ⟨_,_,rfl,rfl⟩|omega|(rename_i q;cases q<;>simp only[Option.some.injEq]at h<;>subst h<;>simp at hk)
theorem Ft{x}{a}(h:nc x=some a)(hk:a/10=5):(x=.Fy/\a=50)\/∃t v,x=.iface t v/\a=51:=by cases x<;>simp only[nc,Option.some.injEq,reduceCtorEq]at h<;>(simp)<;>first|exact YH ⟨rfl,rfl⟩|exact YE ⟨_,_,rfl,rfl⟩|omega|(rename_i q;cases q<;>simp only[Option.some.injEq]at h<;>subst h<;>simp at hk)
theorem K0{x}{a}(h:nc x=some a)(hk:a/10=0):(x=.bool true/\a=2)\/(x=.bool false/\a=3):=by cases x<;>simp only[nc,Option.some.injEq,reduceCtorEq]at h<;>(simp)<;>first|omega|(rename_i q;cases q<;>simp only[Option.some.injEq]at h<;>subst h<;>first|rfl|simp)
def XI(P:Program)(kc:Nat)(t:TypeId):Prop:=(kc=0/\P.underlying t=some .bool)\/(kc=1/\∃d,P.underlying t=some (.pointer d))\/(kc=2/\∃d,P.underlying t=some (.slice d))\/(kc=3/\∃d d',P.underlying t=some (.map d d'))\/(kc=4/\∃d d' d'',P.underlying t=some (.func d d' d''))\/(kc=5/\∃d,P.underlying t=some (.interface d))
theorem Vb{kc:Nat}{t:TypeId}{m:M}{x y:V}{cx cy:Value}{a b:Nat}{w:World}(hu:XI P kc t)(hx:VR m x cx)(hy:VR m y cy)(ha:nc x=some a)(hb:nc y=some b)(hka:a/10=kc)(hkb:b/10=kc)(hab:a=b->a%10≠1):(Op.equal t cx cy).run P w=.ok (decide (a=b)) w:=by
 show(Op.equalIn (9999+1) t cx cy).run P w=_;generalize 9999=dd;rcases hu with⟨rfl,hu⟩|⟨rfl,d,hu⟩|⟨rfl,d,hu⟩|⟨rfl,d,d',hu⟩|⟨rfl,d,d',d'',hu⟩|⟨rfl,d,hu⟩;.rcases K0 ha hka with⟨rfl,rfl⟩|⟨rfl,rfl⟩<;>rcases K0 hb hkb with⟨rfl,rfl⟩|⟨rfl,rfl⟩<;>simp only[VR]at hx hy<;>subst hx hy<;>(simp only[Op.equalIn,Sem.run_bind,run_underlying hu,Result.andThen_ok];rfl)
 .rcases SK ha hka with⟨rfl,rfl⟩|⟨p,q,rfl,rfl⟩<;>rcases SK hb hkb with⟨rfl,rfl⟩|⟨p',q',rfl,rfl⟩<;>simp only[VR]at hx hy<;>first|exact absurd rfl (hab rfl)|skip
  .subst hx hy;(simp only[Op.equalIn,Sem.run_bind,run_underlying hu,Result.andThen_ok];rfl)
  .obtain⟨c,rfl,_⟩:=hy;subst hx;(simp only[Op.equalIn,Sem.run_bind,run_underlying hu,Result.andThen_ok];rfl)
  .obtain⟨c,rfl,_⟩:=hx;subst hy;(simp only[Op.equalIn,Sem.run_bind,run_underlying hu,Result.andThen_ok];rfl)
 .rcases Fu ha hka with⟨rfl,rfl⟩|⟨p,q,r,s,s1,rfl,rfl⟩<;>rcases Fu hb hkb with⟨rfl,rfl⟩|⟨p',q',r',s',s2,rfl,rfl⟩<;>simp only[VR]at hx hy<;>first|exact absurd rfl (hab rfl)|skip
  .subst hx hy;(simp only[Op.equalIn,Sem.run_bind,run_underlying hu,Result.andThen_ok];rfl)
  .obtain⟨c,cap,o',sp,rfl,_⟩:=hy;subst hx;(simp only[Op.equalIn,Sem.run_bind,run_underlying hu,Result.andThen_ok];rfl)
  .obtain⟨c,cap,o',sp,rfl,_⟩:=hx;subst hy;(simp only[Op.equalIn,Sem.run_bind,run_underlying hu,Result.andThen_ok];rfl)
 .rcases SJ ha hka with⟨rfl,rfl⟩|⟨p,rfl,rfl⟩<;>rcases SJ hb hkb with⟨rfl,rfl⟩|⟨p',rfl,rfl⟩<;>simp only[VR]at hx hy<;>first|exact absurd rfl (hab rfl)|skip
  .subst hx hy;(simp only[Op.equalIn,Sem.run_bind,run_underlying hu,Result.andThen_ok];rfl)
  .obtain⟨c,rfl,_⟩:=hy;subst hx;(simp only[Op.equalIn,Sem.run_bind,run_underlying hu,Result.andThen_ok];rfl)
  .obtain⟨c,rfl,_⟩:=hx;subst hy;(simp only[Op.equalIn,Sem.run_bind,run_underlying hu,Result.andThen_ok];rfl)
 .rcases K1 ha hka with⟨rfl,rfl⟩|⟨p,q,rfl,rfl⟩<;>rcases K1 hb hkb with⟨rfl,rfl⟩|⟨p',q',rfl,rfl⟩<;>simp only[VR]at hx hy<;>first|exact absurd rfl (hab rfl)|skip
  .subst hx hy;(simp only[Op.equalIn,Sem.run_bind,run_underlying hu,Result.andThen_ok];rfl)
  .obtain⟨c,rfl,_⟩:=hy;subst hx;(simp only[Op.equalIn,Sem.run_bind,run_underlying hu,Result.andThen_ok];rfl)
  .obtain⟨c,rfl,_⟩:=hx;subst hy;(simp only[Op.equalIn,Sem.run_bind,run_underlying hu,Result.andThen_ok];rfl)
 .rcases Ft ha hka with⟨rfl,rfl⟩|⟨p,q,rfl,rfl⟩<;>rcases Ft hb hkb with⟨rfl,rfl⟩|⟨p',q',rfl,rfl⟩<;>simp only[VR]at hx hy<;>first|exact absurd rfl (hab rfl)|skip
  .subst hx hy;(simp only[Op.equalIn,Sem.run_bind,run_underlying hu,Result.andThen_ok];rfl)
  .obtain⟨c,rfl,_⟩:=hy;subst hx;(simp only[Op.equalIn,Sem.run_bind,run_underlying hu,Result.andThen_ok];rfl)
  .obtain⟨c,rfl,_⟩:=hx;subst hy;(simp only[Op.equalIn,Sem.run_bind,run_underlying hu,Result.andThen_ok];rfl)
theorem SL{m}{x}{cx}{a}(hx:VR m x cx)(ha:nc x=some a):(∀l,cx≠.agg l)/\(cx=.nilIface->a/10=5):=by cases x<;>simp only[VR]at hx<;>first|(simp only[nc,reduceCtorEq]at ha;done)|(subst hx;refine⟨λ_=>nofun,λe=>?_⟩;first|rfl|(simp only[nc,Option.some.injEq]at ha;omega))|rfl|(obtain⟨_,hx,_⟩:=hx;subst hx;simp)|(obtain⟨_,_,_,_,hx,_⟩:=hx;simp_all)
theorem vj{op}{kc}{t}{m}{ox oy}{x y}{cx cy}{a b}{w}(hx:VR m x cx)(hy:VR m y cy)(ha:nc x=some a)(hb:nc y=some b)(hka:a/10=kc)(hkb:b/10=kc)(hc:kc=5->(∃v,ox=.const v)\/∃v,oy=.const v):(eqGuard op t ox oy cx cy).run P w=.ok () w:=by
 obtain⟨h1,h2⟩:=SL hx ha;unfold eqGuard;cases op<;>try rfl
 all_goals
  cases cx<;>try rfl
  case agg l=>simp_all
  case nilIface=>
   cases cy<;>try rfl
   rcases hc (hka.symm.trans (h2 rfl))with⟨v,rfl⟩|⟨v,rfl⟩;.rfl
   simp
theorem AA{x}{ar}{nt}{e}(h:aL nt x=some ar)(hi:isC ar=true){a}(hn:nc (aA ar e)=some a)(hk:a/10=5):∃v,x=.const v:=by
 unfold aL at h;split at h;.split at h<;>cases h;cases hi
 .simp
 .cases h;simp[aA,nc]at hn;omega
 simp_all
theorem mj{kc:Nat}{op:BinOp}{xt yt:TypeId}{x y:Operand}{x' y':Arg}(hop:o.op=.binOp op xt x y yt)(hx:aL nt x=some x')(hy:aL nt y=some y')(hu:XI P kc xt)(hc:kc=5->isC x'=true\/isC y'=true)(h:aQ (nG kc op x' y') id ph e H k=1):Good P nt o e H k:=by
 have mem:x∈o.op.operands/\y∈o.op.operands:=by simp[hop,Op.operands]
 have hnd:∀c,o.op≠.defer c:=by simp[hop]
 have key:∀neg:Bool,(op=if neg then .neq else .eql)->U5 kc neg x' y' id ph e H k=1->Good P nt o e H k:=by
  intro neg hneg h';obtain⟨a,b,h1,h2,h3,h4,h5,h6⟩:=U6 h';refine⟨_,_,eZ.bJ hnd λm w ac ho=>?_,h6⟩;have vx:=ho x mem.1 x' hx;have vy:=ho y mem.2 y' hy;have hc':kc=5->(∃v,x=.const v)\/∃v,y=.const v:=λe5=>(hc e5).imp (λhi=>AA hx hi h1 (h3.trans e5)) (λhi=>AA hy hi h2 (h4.trans e5));have hr:=Vb (w:=w) hu vx vy h1 h2 h3 h4 h5;have hg:=vj (P:=P) (op:=op) (t:=xt) (w:=w) vx vy h1 h2 h3 h4 hc';refine⟨.bool (if neg then !decide (a=b)else decide (a=b)),?_,by simp only[VR]⟩;simp only[execOp,hop,Sem.run_bind,hg,Result.andThen_ok];have hb:(binOp op xt (ac.eval x) (ac.eval y)).run P w=.ok (.bool (if neg then !decide (a=b)else decide (a=b))) w:=by
   have hb':binOp op xt (ac.eval x) (ac.eval y)=if neg then(do pure (.bool (!(<-Op.equal xt (ac.eval x) (ac.eval y)))))else(do pure (.bool (<-Op.equal xt (ac.eval x) (ac.eval y)))):=by subst hneg;generalize ac.eval x=cx at vx;generalize ac.eval y=cy at vy;cases hq:aA x' e<;>rw[hq]at h1 vx<;>simp only[nc,Option.some.injEq,reduceCtorEq]at h1<;>simp only[VR]at vx<;>first|(subst vx;cases neg<;>cases cy<;>rfl)|(obtain⟨c1,vx,_⟩:=vx;subst vx;cases neg<;>cases cy<;>rfl)|(obtain⟨c1,c2,c3,c4,vx,_⟩:=vx;subst vx;cases neg<;>cases cy<;>rfl)
   rw[hb'];cases neg<;>simp[hr]
  rw[hb];rfl
 unfold nG at h;split at h;.exact key false (by simp) h
 .exact key true (by simp) h
 .exact(aw h).elim
theorem abN{op}{xt}{x}(hop:o.op=.unOp op xt x)(h:aQ (ai P nt o) id ph e H k=1):Good P nt o e H k:=by
 simp only[ai,hop]at h;have mem:x∈o.op.operands:=by simp[hop,Op.operands]
 have hnd:∀c,o.op≠.defer c:=by simp_all
 split at h
 .rename_i x' hx;have h':RJ x' id ph e H k=1:=h;unfold RJ at h';rw[aq]at h';obtain⟨b,hb,h1⟩:=mJ h';have h2:k (.bool (!b)) H=1:=by rcases bV h1 with⟨h2,h3⟩|⟨h2,h3⟩<;>subst h2<;>exact h3
  refine⟨_,_,eZ.bJ hnd λm w ac ho=>?_,h2⟩;have v:=ho x mem x' hx;rw[hb]at v;simp only[VR]at v;exact⟨.bool (!b),by simp[execOp,hop,v,Op.unary],by rfl⟩
 .rename_i x' hx;split at h;.rename_i kx hk;have h':MJ (lN kx) (lN kx) (.sub (2^kx.bits)) (.c (.int (lN kx) 0)) x' id ph e H k=1:=h;obtain⟨a,b,ha,hb,h1⟩:=BK h';simp only[aA,V.int.injEq,true_and]at ha;subst ha;obtain⟨r,h2,h3⟩:=Pk (P:=P) (t:=xt) (op:=.sub) rfl (YH ⟨rfl,rfl⟩) h1;refine⟨_,_,eZ.bJ hnd λm w ac ho=>?_,h2⟩;have v:=ho x mem x' hx;rw[hb]at v;simp only[VR,dF]at v;obtain⟨h4,h5⟩:=h3 (xB kx) v.2.1;have h6:=h5 w;rw[toI_small kx 0 (by cases kx<;>decide)]at h6;simp only[binOp,ne_eq,not_true_eq_false,if_false]at h6;exact⟨.int kx (toI kx r),by simp only[execOp,hop,v.1,Op.unary,Sem.run_bind];simp_all,by simp only[VR,dF];simp_all⟩
  .exact(aw h).elim
 .rename_i x' hx;split at h
  .rename_i kx hk;have h':MJ (lN kx) (lN kx) .aax (.c (.int (lN kx) (2^kx.bits-1))) x' id ph e H k=1:=h;obtain⟨a,b,ha,hb,h1⟩:=BK h';simp only[aA,V.int.injEq,true_and]at ha;subst ha;obtain⟨r,h2,h3⟩:=Pk (P:=P) (t:=xt) (op:=.xor) rfl (YH ⟨rfl,rfl⟩) h1;refine⟨_,_,eZ.bJ hnd λm w ac ho=>?_,h2⟩;have v:=ho x mem x' hx;rw[hb]at v;simp only[VR,dF]at v;obtain⟨h4,h5⟩:=h3 (by cases kx<;>decide) v.2.1;have h6:=h5 w;have h7:toI kx (2^kx.bits-1)=if kx.signed then-1 else kx.max:=by cases kx<;>decide
   simp only[binOp,ne_eq,not_true_eq_false,if_false]at h6;exact⟨.int kx (toI kx r),by simp only[execOp,hop,v.1,Op.unary,Sem.run_bind];simp_all,by simp only[VR,dF];simp_all⟩
  .exact(aw h).elim
 .exact(aw h).elim
theorem vk{t}{x}(hop:o.op=.makeInterface t x)(h:aQ (ai P nt o) id ph e H k=1):Good P nt o e H k:=by
 simp only[ai,hop]at h;have mem:x∈o.op.operands:=by simp[hop,Op.operands]
 have hnd:∀c,o.op≠.defer c:=by simp_all
 split at h;.exact(aw h).elim
 .rename_i x' d hni hx hu;have h':aaP t x' id ph e H k=1:=h;unfold aaP at h';rw[aq]at h';refine⟨_,_,eZ.bJ hnd λm w ac ho=>?_,h'⟩;have v:=ho x mem x' hx;refine⟨.iface t (ac.eval x),?_,by simp only[VR];simp_all⟩;simp only[execOp,hop,Instr.makeInterface,Sem.run_bind,run_underlying hu,Result.andThen_ok];rfl
 .exact(aw h).elim
theorem CD{x}{xt t}{ok}(hop:o.op=.typeAssert x xt t ok)(h:aQ (ai P nt o) id ph e H k=1):Good P nt o e H k:=by
 simp only[ai,hop]at h;have mem:x∈o.op.operands:=by simp[hop,Op.operands]
 have hnd:∀c,o.op≠.defer c:=by simp_all
 split at h;.exact(aw h).elim
 .rename_i x' d hni hx hu;have h':aaV t x' id ph e H k=1:=h;unfold aaV at h';rw[aq]at h';obtain⟨u,hv,h2⟩:=abZ h';refine⟨_,_,eZ.bJ hnd λm w ac ho=>?_,h2⟩;have v:=ho x mem x' hx;rw[hv]at v;obtain⟨cu,hc,hcu⟩:=v;refine⟨.tuple #[cu,.bool true],?_,by exact⟨_,rfl,by exact⟨_,_,rfl,hcu,_,_,rfl,by rfl,rfl⟩⟩⟩;simp only[execOp,hop,hc,Instr.typeAssert,Sem.run_bind,run_underlying hu,Result.andThen_ok];rfl
 .exact(aw h).elim
theorem jk{m}{ac:Act}:∀{l}{r},bX nt l=some r->(∀x∈l,∀ar,aL nt x=some ar->VR m (aA ar e) (ac.eval x))->bZ m (r.map (aA · e)) (l.map ac.eval)
 |[],r,h,_=>by simp only[bX,Option.some.injEq]at h;subst h;rfl|x::l,r,h,ho=>by
  simp only[bX]at h;split at h;.rename_i a r' h1 h2;cases h;exact⟨_,_,rfl,ho x (YL ..) a h1,jk h2 λy hy=>ho y (YI _ hy)⟩
  simp_all
theorem JA{f}{first caps}(hop:o.op=.makeFunc (.func f) first caps)(h:aQ (ai P nt o) id ph e H k=1):Good P nt o e H k:=by
 simp only[ai,hop]at h;have hnd:∀c,o.op≠.defer c:=by simp_all
 split at h
 .rename_i l hf hl;have h':RM (2*f) l id ph e H k=1:=h;unfold RM at h';rw[ib]at h';refine⟨_,_,eZ.bJ hnd λm w ac ho=>?_,h'⟩;have hf':first=#[]:=by simp_all
  subst hf';refine⟨.func (.func f) #[] (caps.map ac.eval),by simp[execOp,hop,Instr.makeFunc],?_⟩;simp only[VR];have:=jk hl λx hx=>ho x (by simp[hop,Op.operands];simp_all);simp_all
 .rename_i q qs hf hc;split at h
  .rename_i l hl;have h':RM (2*f+1) l id ph e H k=1:=h;unfold RM at h';rw[ib]at h';refine⟨_,_,eZ.bJ hnd λm w ac ho=>?_,h'⟩;have hcl:caps.toList=[]:=by cases hct:caps.toList with|nil=>rfl|cons y ys=>rw[hct]at hc;simp only[bX]at hc;split at hc<;>cases hc
   have hc':caps=#[]:=by simp_all
   subst hc';refine⟨.func (.func f) (first.map ac.eval) #[],by simp[execOp,hop,Instr.makeFunc],?_⟩;refine⟨first.map ac.eval,by simp[Nat.mul_add_div],?_⟩;rw[<-hf]at hl;have:=jk hl λx hx=>ho x (by simp[hop,Op.operands];simpa using hx);simp_all
  .exact(aw h).elim
 .exact(aw h).elim
theorem NW{x}{i}(hop:o.op=.extract x i)(h:aQ (ai P nt o) id ph e H k=1):Good P nt o e H k:=by
 simp only[ai,hop]at h;have mem:x∈o.op.operands:=by simp[hop,Op.operands]
 have hnd:∀c,o.op≠.defer c:=by simp_all
 split at h
 .rename_i x' hx;have h':Rz x' i id ph e H k=1:=h;unfold Rz at h';rw[aq]at h';obtain⟨l,hl,h1⟩:=XC h';obtain⟨v,hv,h2⟩:=tN h1;refine⟨_,_,eZ.bJ hnd λm w ac ho=>?_,h2⟩;have vx:=ho x mem x' hx;rw[hl]at vx;obtain⟨cs,hcs,hr⟩:=vx;obtain⟨c,hc,hvr⟩:=hr.get hv;refine⟨c,?_,hvr⟩;have hc':cs[i]?=some c:=by simp_all
  simp[execOp,hop,hcs,Instr.extract,hc']
 .exact(aw h).elim
theorem F7{t}{x}{f}(hop:o.op=.fieldAddr t x f)(h:aQ (ai P nt o) id ph e H k=1):Good P nt o e H k:=by
 simp only[ai,hop]at h;have mem:x∈o.op.operands:=by simp[hop,Op.operands]
 have hnd:∀c,o.op≠.defer c:=by simp_all
 split at h
 .rename_i x' fs hx hu;split at h
  .rename_i fd hfd;split at h
   .rename_i n hsz;have h':RA fd.offset x' id ph e H k=1:=h;unfold RA at h';rw[aq]at h';obtain⟨b,off,hb,h1⟩:=fP h';rw[ax]at h1;refine⟨_,_,eZ.bJ hnd λm w ac ho=>?_,h1⟩;have vx:=ho x mem x' hx;rw[hb]at vx;obtain⟨c,hc,hm⟩:=vx;refine⟨.pointer (some ⟨c,off+fd.offset,none⟩),?_,by simp only[VR];simp_all⟩;simp only[qz,Yh]at hsz;obtain⟨ti,hti,hsz⟩:=hsz;have hs:(sizeOf fd.type).run P w=.ok (n+1) w:=by simp[sizeOf,typeInfo,hti,hsz]
    simp[execOp,hop,hc,Instr.fieldAt,run_underlying hu,hfd,Instr.sureAddr,fieldPlace,hs,Addr.add_lit]
   .exact(aw h).elim
  .exact(aw h).elim
 .exact(aw h).elim
theorem gh{t}{cs}{off}{l}{m}(hr:bZ m l cs.toList){w}:(∀n,lJ P t=some true->qz P t=some n->off+n<=l.length->∃q:Array Value,(part t cs off).run P w=.ok (.agg q) w/\bZ m ((l.drop off).take n) q.toList)/\(∀v,lJ P t=some false->l[off]?=some v->∃c,(part t cs off).run P w=.ok c w/\VR m v c):=by
 have hlen:=hr.length;constructor
 .intro n ha hs hle;have hag:(isAgg t).run P w=.ok true w:=by unfold lJ at ha;split at ha<;>simp at ha;all_goals(rename_i hu;simp[isAgg,run_underlying hu])
  simp only[qz,Yh]at hs;obtain⟨ti,hti,hsz⟩:=hs;have hsz':(sizeOf t).run P w=.ok n w:=by simp[sizeOf,typeInfo,hti,hsz]
  refine⟨cs.extract off (off+n),by simp[part,hag,hsz'],?_⟩;refine bZ.pB ?_ λi v c h1 h2=>?_;.simp_all
  .rw[Yy]at h1;split at h1;.rw[WG]at h1;obtain⟨c',h3,h4⟩:=hr.get h1;simp_all
   simp_all
 .intro v ha hv;have hag:(isAgg t).run P w=.ok false w:=by unfold lJ at ha;split at ha<;>simp at ha;rename_i d h1 h2 hu;simp only[isAgg,Sem.run_bind,run_underlying hu,Result.andThen_ok];rfl
  obtain⟨c,h3,h4⟩:=hr.get hv;rw[Yr]at h3;exact⟨c,by simp[part,hag,h3],h4⟩
theorem Xh{t}{x}{f}(hop:o.op=.field t x f)(h:aQ (ai P nt o) id ph e H k=1):Good P nt o e H k:=by
 simp only[ai,hop]at h;have mem:x∈o.op.operands:=by simp[hop,Op.operands]
 have hnd:∀c,o.op≠.defer c:=by simp_all
 split at h
 .rename_i x' fs hx hu;split at h
  .rename_i fd hfd;split at h;.rename_i n hag hsz;have h':RD fd.offset n x' id ph e H k=1:=h;unfold RD at h';rw[aq]at h';obtain⟨l,hl,h1⟩:=qm h';obtain⟨h2,h3⟩:=mh h1;obtain⟨h4,h5⟩:=kT h3;refine⟨_,_,eZ.bJ hnd λm w ac ho=>?_,h5⟩;have vx:=ho x mem x' hx;rw[hl]at vx;obtain⟨cs,hc,hr⟩:=vx;obtain⟨q,hq,hqr⟩:=(gh (off:=fd.offset) hr (w:=w)).1 n hag hsz (by simp at h4;omega);exact⟨.agg q,by simp[execOp,hop,hc,Instr.field,run_underlying hu,hfd,asAgg,hq],by simp only[VR];simp_all⟩
   .rename_i n hag hsz;have h':RB fd.offset x' id ph e H k=1:=h;unfold RB at h';rw[aq]at h';obtain⟨l,hl,h1⟩:=qm h';obtain⟨v,h2,h3⟩:=tN h1;refine⟨_,_,eZ.bJ hnd λm w ac ho=>?_,h3⟩;have vx:=ho x mem x' hx;rw[hl]at vx;obtain⟨cs,hc,hr⟩:=vx;obtain⟨q,hq,hqr⟩:=(gh hr (w:=w)).2 v hag h2;exact⟨q,by simp[execOp,hop,hc,Instr.field,run_underlying hu,hfd,asAgg,hq],hqr⟩
   .exact(aw h).elim
  .exact(aw h).elim
 .exact(aw h).elim
theorem BX{i'}{len}{c}(h:idx id i' e len c=1):∃n,c n=1/\n<len/\∀(m)(cv),VR m (aA i' e) cv->∃kd,cv=.int kd n:=by unfold idx at h;rw[aq]at h;obtain⟨kd,n,hn,h1⟩:=dI h;obtain⟨h2,h3⟩:=aU h1;obtain⟨h4,h5⟩:=aU h3;obtain⟨h6,h7⟩:=aU h5;refine⟨n,h7,eQ h4,λm cv hv=>?_⟩;rw[hn]at hv;exact⟨pe kd,by rw[hv.1,toI_64 (cB h2) hv.2.2 (eQ h6) hv.2.1]⟩
theorem cK{t}{n}(h:qz P t=some n)(w):(sizeOf t).run P w=.ok n w:=by simp only[qz,Yh]at h;obtain⟨ti,hti,hsz⟩:=h;simp[sizeOf,typeInfo,hti,hsz]
theorem F8{t:TypeId}{x i:Operand}(hop:o.op=.indexAddr t x i)(h:aQ (ai P nt o) id ph e H k=1):Good P nt o e H k:=by
 simp only[ai,hop]at h;have mem:x∈o.op.operands/\i∈o.op.operands:=by simp[hop,Op.operands]
 have hnd:∀c,o.op≠.defer c:=by simp[hop]
 split at h
 .rename_i x' i' len el hx hi hu;split at h
  .rename_i s hs;have h':aaL len s x' i' id ph e H k=1:=h;unfold aaL at h';rw[aq]at h';obtain⟨b,off,hb,h1⟩:=fP h';obtain⟨n,h2,h3,h4⟩:=BX h1;rw[ax]at h2;refine⟨_,_,eZ.bJ hnd λm w ac ho=>?_,h2⟩;have vx:=ho x mem.1 x' hx;obtain⟨kd,hki⟩:=h4 m _ (ho i mem.2 i' hi);rw[hb]at vx;simp only[VR]at vx;obtain⟨c,hc,hm⟩:=vx;refine⟨.pointer (some ⟨c,off+n*s,none⟩),?_,by simp only[VR];exact⟨c,rfl,hm⟩⟩;have hlt:(0:Int)<=(n:Int)/\(n:Int)<(len:Int):=by omega
   simp[execOp,hop,hc,hki,Instr.indexAt,asIntOf,run_underlying hu,Instr.sureAddr,cK hs,h3,Addr.add_lit]
  .exact(aw h).elim
 .rename_i x' i' el hx hi hu;split at h
  .rename_i s hs;have h':aaO s x' i' id ph e H k=1:=h;unfold aaO at h';rw[aq]at h';obtain⟨b,off,len,cp,sz,hb,h1⟩:=Oq h';obtain⟨n,h2,h3,h4⟩:=BX h1;rw[ax]at h2;refine⟨_,_,eZ.bJ hnd λm w ac ho=>?_,h2⟩;have vx:=ho x mem.1 x' hx;obtain⟨kd,hki⟩:=h4 m _ (ho i mem.2 i' hi);rw[hb]at vx;simp only[VR]at vx;obtain⟨c,cap,o',sp,hc,hm,hle,hcp,ho'⟩:=vx;obtain⟨rfl,rfl⟩:o'=off/\sp=none:=by
    rcases ho' with h|h;.exact h
    .omega
   refine⟨.pointer (some ⟨c,o'+n*s,none⟩),?_,by simp only[VR];exact⟨c,rfl,hm⟩⟩;simp[execOp,hop,hc,hki,Instr.indexAt,asIntOf,run_underlying hu,cK hs,h3,Addr.add_lit]
  .exact(aw h).elim
 .exact(aw h).elim
theorem Xi{t:TypeId}{x i:Operand}(hop:o.op=.index t x i)(h:aQ (ai P nt o) id ph e H k=1):Good P nt o e H k:=by
 simp only[ai,hop]at h;have mem:x∈o.op.operands/\i∈o.op.operands:=by simp[hop,Op.operands]
 have hnd:∀c,o.op≠.defer c:=by simp[hop]
 split at h
 .rename_i x' i' hx hi hu;have h':aaN x' i' id ph e H k=1:=h;unfold aaN at h';rw[aq]at h';obtain⟨len,mm,hb,h1⟩:=eo h';obtain⟨n,h2,h3,h4⟩:=BX h1;rw[ax]at h2;refine⟨_,_,eZ.bJ hnd λm w ac ho=>?_,h2⟩;have vx:=ho x mem.1 x' hx;obtain⟨kd,hki⟩:=h4 m _ (ho i mem.2 i' hi);rw[hb]at vx;simp only[VR]at vx;have hg:=ru len mm n h3;have e1:YB0 (WC mm (Ym 8 n)) 255=(UInt8.ofNat (mm/256^n%256)).toNat:=by show(mm>>>(8*n))&&&255=_;rw[WD,QT,show(255:Nat)=2^8-1by rfl,QS,toNat_byte]
  rw[e1];refine⟨.int .u8 (UInt8.ofNat (mm/256^n%256)).toNat,?_,vv m _⟩;have hlen:(aD len mm).length=len:=aK len mm;have hbg:(⟨(aD len mm).toArray⟩:ByteArray)[n]?=some (UInt8.ofNat (mm/256^n%256)):=by
   have hlt:n<(⟨(aD len mm).toArray⟩:ByteArray).size:=by simp[ByteArray.size,hlen,h3]
   rw[getElem?_pos (⟨(aD len mm).toArray⟩:ByteArray) n hlt];congr 1;have:(aD len mm)[n]'(by omega)=UInt8.ofNat (mm/256^n%256):=by rw[YA (by omega)]at hg;exact Option.some.inj hg
   rw[<-this];rfl
  simp[execOp,hop,vx.1,hki,Instr.index,asIntOf,run_underlying hu,hbg]
 .rename_i x' i' len el hx hi hu;split at h
  .rename_i s ag hs hag;have h':aaM len s ag x' i' id ph e H k=1:=h;unfold aaM at h';rw[aq]at h';obtain⟨l,hb,h1⟩:=qm h';obtain⟨n,h2,h3,h4⟩:=BX h1;rcases bV h2 with⟨h5,h6⟩|⟨h5,h6⟩;.subst h5;obtain⟨h7,h8⟩:=mh h6;obtain⟨h9,h10⟩:=kT h8;refine⟨_,_,eZ.bJ hnd λm w ac ho=>?_,h10⟩;have vx:=ho x mem.1 x' hx;obtain⟨kd,hki⟩:=h4 m _ (ho i mem.2 i' hi);rw[hb]at vx;simp only[VR]at vx;obtain⟨cs,hc,hr⟩:=vx;have h7':n*s<=l.length:=h7;obtain⟨q,hq,hqr⟩:=(gh (P:=P) (t:=el) (off:=n*s) hr (w:=w)).1 s hag hs (by have:s<=(l.drop (n*s)).length:=h9;simp at this;omega);exact⟨.agg q,by simp[execOp,hop,hc,hki,Instr.index,asIntOf,run_underlying hu,cK hs,h3,hq],by simp only[VR];exact⟨q,rfl,hqr⟩⟩
   .subst h5;obtain⟨v,h7,h8⟩:=tN h6;refine⟨_,_,eZ.bJ hnd λm w ac ho=>?_,h8⟩;have vx:=ho x mem.1 x' hx;obtain⟨kd,hki⟩:=h4 m _ (ho i mem.2 i' hi);rw[hb]at vx;simp only[VR]at vx;obtain⟨cs,hc,hr⟩:=vx;obtain⟨q,hq,hqr⟩:=(gh (P:=P) (t:=el) (off:=n*s) hr (w:=w)).2 v hag h7;exact⟨q,by simp[execOp,hop,hc,hki,Instr.index,asIntOf,run_underlying hu,cK hs,h3,hq],hqr⟩
  .exact(aw h).elim
 .exact(aw h).elim
def acw(P:Program)(c:Nat)(a b:V)(r:Bool):Prop:=∀(m:M)(cx cy:Value),VR m a cx->VR m b cy->∀(dd:Nat)(t:TypeId)(w:World),(c=0->P.underlying t=some .bool)->(c=1->∃q,P.underlying t=some (.int q))->(2<=c->P.underlying t=some .string)->(Op.equalIn (dd+1) t cx cy).run P w=.ok r w
theorem Nn{c}{x y}{k}(h:IS id c x y k=1):∃r,k r=1/\acw P c x y r:=by match c,h with
 |0,h=>have h':eO id x (λa=>eO id y λb=>aH a (k b) (aH b (k false) (k true)))=1:=h;obtain⟨a,rfl,h1⟩:=mJ h';obtain⟨b,rfl,h2⟩:=mJ h1;refine⟨a==b,by cases a<;>cases b<;>exact h2,λm cx cy vx vy dd t w h0 _ _=>?_⟩;subst vx vy;exact run_equalIn_bool' w dd t a b (h0 rfl)|1,h=>
  have h':cD id x (λk1 a=>cD id y λk2 b=>aH (YR k1 k2) (k (YR a b)) (no _))=1:=h;obtain⟨k1,a,rfl,h1⟩:=dI h';obtain⟨k2,b,rfl,h2⟩:=dI h1;obtain⟨h3,h4⟩:=aU h2;have:=cH h3;subst this;refine⟨_,h4,λm cx cy vx vy dd t w _ h1 _=>?_⟩;obtain⟨q,hq⟩:=h1 rfl;rw[vx.1,vy.1,run_equalIn_int w dd t _ q _ _ hq,fM];by_cases hab:a=b;.simp_all
  .have:=λe=>hab (toI_inj _ vx.2.1 vy.2.1 e);simp_all|c+2,h=>
  have h':dZ id x (λl1 a=>dZ id y λl2 b=>aH (YR l1 l2) (k (YR a b)) (k false))=1:=h;obtain⟨l1,a,rfl,h1⟩:=eo h';obtain⟨l2,b,rfl,h2⟩:=eo h1;have hf:k (decide (l1=l2)&&decide (a=b))=1:=by
   rcases bV h2 with⟨h3,h4⟩|⟨h3,h4⟩;.rw[fM]at h3 h4;simp_all
   .rw[fM]at h3;simp_all
  refine⟨_,hf,λm cx cy vx vy dd t w _ _ h2=>?_⟩;rw[vx.1,vy.1,run_equalIn_string w dd t _ _ (h2 (by omega))];congr 1;rw[ByteArray.toList_eq,ByteArray.toList_eq];by_cases hl:l1=l2
  .subst hl;by_cases hab:a=b;.simp_all
   .simp only[hab,decide_false,Bool.and_false,beq_eq_false_iff_ne,ne_eq];intro e;exact hab (rv vx.2 vy.2 (by omega))
  .simp only[hl,decide_false,Qn,beq_eq_false_iff_ne,ne_eq];intro e;have:=congrArg Wz e;simp[aK]at this;omega
def Ls(P:Program):List Nat->List V->List V->Bool->Prop|[],_,_,b=>b=true|c::cls,l,m,b=>∃a l' a' m' r,l=a::l'/\m=a'::m'/\acw P c a a' r/\(r=true->Ls P cls l' m' b)/\(r=false->b=false)
theorem KO:∀{cls}{l m}{k},gu id cls l m k=1->∃b,k b=1/\Ls P cls l m b|[],l,m,k,h=>⟨true,h,rfl⟩|c::cls,[],m,k,h=>(aw h).elim|c::cls,a::l,[],k,h=>(aw h).elim|c::cls,a::l,a'::m,k,h=>by have h':=h;obtain⟨r,h1,h2⟩:=Nn h';cases r with|true=>obtain⟨b,h3,h4⟩:=KO (show gu id cls l m k=1from h1);exact⟨b,h3,a,l,a',m,true,rfl,rfl,h2,λ_=>h4,λh=>(by cases h)⟩|false=>exact⟨false,h1,a,l,a',m,false,rfl,rfl,h2,λh=>(by cases h),λ_=>rfl⟩
theorem Ls.split:∀{c r:List Nat}{l m:List V}{b:Bool},Ls P (c++r) l m b->∃b1,Ls P c (l.take c.length) (m.take c.length) b1/\(b1=true->Ls P r (l.drop c.length) (m.drop c.length) b)/\(b1=false->b=false)|[],r,l,m,b,h=>⟨true,rfl,λ_=>by simpa using h,λh=>(by cases h)⟩|c::cs,r,l,m,b,h=>by obtain⟨a,l',a',m',q,rfl,rfl,h1,h2,h3⟩:=h;cases q with|true=>obtain⟨b1,h4,h5,h6⟩:=Ls.split (h2 rfl);exact⟨b1,⟨a,_,a',_,true,rfl,rfl,h1,λ_=>h4,λh=>(by cases h)⟩,λe=>by simpa using h5 e,h6⟩|false=>exact⟨false,⟨a,_,a',_,false,rfl,rfl,h1,λh=>(by cases h),λ_=>rfl⟩,λh=>(by cases h),λ_=>h3 rfl⟩
theorem tj{t}{d}{c}(h:uU P (d+1) t=some c):(lJ P t=some false/\∃q,c=[q]/\(q=0->P.underlying t=some .bool)/\(q=1->∃kd,P.underlying t=some (.int kd))/\(2<=q->P.underlying t=some .string))\/(lJ P t=some true/\P.underlying t=some (.struct (P.fieldsOf t))/\P.stoodInHeld t=false/\uj P (uU P d) (P.fieldsOf t).toList 0=some c):=by
 simp only[uU]at h;split at h;.rename_i hu;cases h;exact YH ⟨by simp[lJ,hu],0,rfl,λ_=>hu,λh=>(by omega),λh=>(by omega)⟩
 .rename_i q hu;cases h;exact YH ⟨by simp[lJ,hu],1,rfl,λh=>(by omega),λ_=>⟨q,hu⟩,λh=>(by omega)⟩
 .rename_i hu;cases h;exact YH ⟨by simp[lJ,hu],2,rfl,λh=>(by omega),λh=>(by omega),λ_=>hu⟩
 .rename_i fs hu;split at h;.cases h
  .have hf:P.fieldsOf t=fs:=by simp[Program.fieldsOf,hu]
   exact YE ⟨by simp[lJ,hu],by simp_all,by simp_all,by simp_all⟩
 simp_all
theorem tF{m:M}{w:World}:∀(d:Nat)(t:TypeId)(c:List Nat),uU P d t=some c->∀(dd:Nat),d<=dd->∀(cx cy:Value)(l l':List V)(b:Bool),Ls P c l l' b->l.length=c.length->l'.length=c.length->((lJ P t=some false->∃v v':V,l=[v]/\l'=[v']/\VR m v cx/\VR m v' cy)/\(lJ P t=some true->∃xs ys,cx=.agg xs/\cy=.agg ys/\bZ m l xs.toList/\bZ m l' ys.toList))->(Op.equalIn dd t cx cy).run P w=.ok b w
 |0,t,c,h,_,_,_,_,_,_,_,_,_,_,_=>by simp[uU]at h|d+1,t,c,h,0,hdd,_,_,_,_,_,_,_,_,_=>by omega|d+1,t,c,h,dd+1,hdd,cx,cy,l,l',b,heq,hl1,hl2,hv=>by
  rcases tj h with⟨ha,q,rfl,h0,h1,h2⟩|⟨ha,hu,hs,hf⟩;.obtain⟨v,v',rfl,rfl,v1,v2⟩:=hv.1 ha;obtain⟨a,r1,a',r2,r,e1,e2,hl,g1,g2⟩:=heq;cases e1;cases e2;have hr:=hl m cx cy v1 v2 dd t w h0 h1 h2;cases r with|true=>have:b=true:=g1 rfl;subst this;exact hr|false=>rw[g2 rfl];exact hr
  .obtain⟨xs,ys,rfl,rfl,v1,v2⟩:=hv.2 ha;rw[run_equalIn_struct w dd t xs ys hu hs];clear h ha hu hs hv;generalize(P.fieldsOf t).toList=fs at hf;have key:∀(fs:List Field)(off:Nat)(c:List Nat)(b:Bool),uj P (uU P d) fs off=some c->Ls P c (l.drop off) (l'.drop off) b->l.length=off+c.length->l'.length=off+c.length->(Op.eqFields dd xs ys fs).run P w=.ok b w:=by intro fs;induction fs with|nil=>intro off c b hc he _ _;simp only[uj,Option.some.injEq]at hc;subst hc;have:b=true:=he;subst this;simp[Op.eqFields]|cons f fs ih=>
     intro off c b hc he hle hle';simp only[uj]at hc;split at hc;.cases hc
     .rename_i hn;split at hc
      .rename_i cf s r h1 h2 h3;split at hc
       .rename_i h4;cases hc;rw[Bool.and_eq_true]at h4;have hoff:f.offset=off:=by simpa using h4.1
        have hsz:s=cf.length:=by simpa using h4.2
        rw[h2]at h3;simp only[YU]at h3;obtain⟨b1,g1,g2,g3⟩:=Ls.split he;have hn':f.name≠ "_":=by simpa using hn
        have hd:∃d',d=d'+1:=by cases d with|zero=>simp[uU]at h1|succ d'=>exact⟨d',rfl⟩
        obtain⟨d',rfl⟩:=hd;have hpart:∃p p',(part f.type xs f.offset).run P w=.ok p w/\(part f.type ys f.offset).run P w=.ok p' w/\(Op.equalIn dd f.type p p').run P w=.ok b1 w:=by
         rw[hoff];rcases tj h1 with⟨ha,q,rfl,_⟩|⟨ha,_⟩
         .have g1':=g1;obtain⟨a,r1,a',r2,rr,e1,e2,_⟩:=g1';have e1':l[off]?=some a:=by have:=congrArg (λz=>z[0]?) e1;simpa using this
          have e2':l'[off]?=some a':=by have:=congrArg (λz=>z[0]?) e2;simpa using this
          obtain⟨p,q1,q2⟩:=(gh (P:=P) (t:=f.type) (off:=off) v1 (w:=w)).2 a ha e1';obtain⟨p',q3,q4⟩:=(gh (P:=P) (t:=f.type) (off:=off) v2 (w:=w)).2 a' ha e2';have hone:∀(z:List V)(x:V)(r:List V),(z.drop off).take 1=x::r->(z.drop off).take 1=[x]:=λz x r e=>by
           have hl:=congrArg Wz e;simp only[Yv,YG]at hl;have:r=[]:=by cases r with|nil=>rfl|cons=>simp at hl;omega
           rw[e,this]
          exact⟨p,p',q1,q3,tF (d'+1) f.type _ h1 dd (by omega) p p' _ _ b1 g1 ((congrArg Wz (hone _ _ _ e1)).trans rfl) ((congrArg Wz (hone _ _ _ e2)).trans rfl) ⟨λ_=>⟨a,a',hone _ _ _ e1,hone _ _ _ e2,q2,q4⟩,λh=>(by rw[ha]at h;cases h)⟩⟩
         .rw[YB]at hle hle';obtain⟨p,q1,q2⟩:=(gh (P:=P) (t:=f.type) (off:=off) v1 (w:=w)).1 s ha h2 (by omega);obtain⟨p',q3,q4⟩:=(gh (P:=P) (t:=f.type) (off:=off) v2 (w:=w)).1 s ha h2 (by omega);rw[hsz]at q2 q4;exact⟨_,_,q1,q3,tF (d'+1) f.type _ h1 dd (by omega) _ _ _ _ b1 g1 (by rw[Yv,WK];omega) (by rw[Yv,WK];omega) ⟨λh=>(by rw[ha]at h;cases h),λ_=>⟨_,_,rfl,rfl,q2,q4⟩⟩⟩
        obtain⟨p,p',q1,q2,q3⟩:=hpart;simp only[Op.eqFields,hn',ne_eq,not_false_eq_true,if_true,Sem.run_bind,q1,q2,q3,Result.andThen_ok];cases b1 with|true=>simp only[Bool.not_true,YT,if_false];rw[YB]at hle hle';refine ih _ r b h3 ?_ (by omega) (by omega);have:=g2 rfl;rw[Qd,Qd]at this;rw[hsz];exact this|false=>rw[g3 rfl];simp
       .cases hc
      .cases hc
   exact key fs 0 c b hf (by simpa using heq) (by omega) (by omega)
theorem xG:∀l:List Nat,AI l=l.length|[]=>rfl|a::l=>by show WN (AI l)=_;rw[xG l];rfl
theorem wu{op}{xt yt}{x y}{x' y'}{c}(hop:o.op=.binOp op xt x y yt)(hx:aL nt x=some x')(hy:aL nt y=some y')(hrun:∀(m)(w)(xs ys)(l l')(b),Ls P c l l' b->l.length=c.length->l'.length=c.length->bZ m l xs.toList->bZ m l' ys.toList->(Op.equalIn 10000 xt (.agg xs) (.agg ys)).run P w=.ok b w)(h:aQ (jj P op xt c x' y') id ph e H k=1):Good P nt o e H k:=by
 have mem:x∈o.op.operands/\y∈o.op.operands:=by simp[hop,Op.operands]
 have hnd:∀c,o.op≠.defer c:=by simp_all
 unfold jj at h;split at h;.exact(aw h).elim
 rename_i hg;have hg':P.eqGuardType P.depth xt=false:=by simp_all
 have key:∀neg,(op=if neg then .neq else .eql)->Ip c neg x' y' id ph e H k=1->Good P nt o e H k:=by
  intro neg hneg h';unfold Ip at h';rw[aq]at h';obtain⟨l,hl,h1⟩:=qm h';rw[aq]at h1;obtain⟨l',hl',h2⟩:=qm h1;obtain⟨h3,h4⟩:=aU h2;obtain⟨h5,h6⟩:=aU h4;have e1:=cH h3;have e2:=cH h5;rw[jV,xG]at e1 e2;obtain⟨b,h7,h8⟩:=KO h6;have h9:k (.bool (if neg then !b else b)) H=1:=by
   rcases bV h7 with⟨rfl,h10⟩|⟨rfl,h10⟩;.rcases bV h10 with⟨rfl,h11⟩|⟨rfl,h11⟩<;>exact h11
   simp_all
  refine⟨_,_,eZ.bJ hnd λm w ac ho=>?_,h9⟩;have vx:=ho x mem.1 x' hx;have vy:=ho y mem.2 y' hy;rw[hl]at vx;rw[hl']at vy;obtain⟨xs,hcx,v1⟩:=vx;obtain⟨ys,hcy,v2⟩:=vy;have hr:=hrun m w xs ys l l' b h8 e1 e2 v1 v2;refine⟨.bool (if neg then !b else b),?_,by rfl⟩;have hgr:=run_eqGuard_agg w op xt x y xs ys hg';simp only[execOp,hop,hcx,hcy,Sem.run_bind,hgr,Result.andThen_ok];cases neg with|true=>have:=run_neq_struct (P:=P) w xt xs ys;simp_all|false=>have:=run_eql_struct (P:=P) w xt xs ys;simp_all
 split at h;.exact key false (by simp) h
 .exact key true (by simp) h
 .exact(aw h).elim
theorem HB{op}{xt yt}{x y}{x' y'}{fs}(hop:o.op=.binOp op xt x y yt)(hx:aL nt x=some x')(hy:aL nt y=some y')(hu:P.underlying xt=some (.struct fs))(h:aQ (mc P op xt x' y') id ph e H k=1):Good P nt o e H k:=by
 unfold mc at h;split at h;rotate_left;.exact(aw h).elim
 rename_i c hc;exact wu hop hx hy (λm w xs ys l l' b h8 e1 e2 v1 v2=>tF 4 xt c hc 10000 (by omega) (.agg xs) (.agg ys) l l' b h8 e1 e2 ⟨λh=>by simp[lJ,hu]at h,λ_=>⟨xs,ys,rfl,rfl,v1,v2⟩⟩) h
theorem MR{xt el}{n q}(hu:P.underlying xt=some (.array n el))(hc:uU P 1 el=some [q])(hs:qz P el=some 1)(d)(m)(w)(xs ys)(l l')(b)(h:Ls P (YZ n q) l l' b)(hv:bZ m l xs.toList)(hv':bZ m l' ys.toList):(Op.equalIn (d+2) xt (.agg xs) (.agg ys)).run P w=.ok b w:=by
 rcases tj hc with⟨ha,q',he,h0,h1,h2⟩|⟨_,_,_,hf⟩
 .cases he;obtain⟨i,hi,hsz⟩:=Yh.1 hs;have hcell:P.cellsOf el=1:=by simp[Program.cellsOf,hi,hsz]
  rw[run_equalIn_array w (d+1) xs ys hu hi,hcell,List.range_eq_range'];have key:∀(r j)(b),Ls P (YZ r q) (l.drop j) (l'.drop j) b->(Op.eqItems (d+1) el 1 xs ys (List.range' j r)).run P w=.ok b w:=by intro r;induction r with|zero=>intro j b hb;have:=hb;subst this;rfl|succ r ih=>
    intro j b hb;obtain⟨a,l1,a',l1',rr,e1,e2,hl,g1,g2⟩:=hb;have ea:=by have:=congrArg (λz=>z[0]?) e1;simpa using this
    have ea':=by have:=congrArg (λz=>z[0]?) e2;simpa using this
    have et:l.drop (j+1)=l1:=by have:=congrArg (List.drop 1) e1;rw[Qd]at this;simp_all
    have et':l'.drop (j+1)=l1':=by have:=congrArg (List.drop 1) e2;rw[Qd]at this;simp_all
    obtain⟨p,q1,q2⟩:=(gh hv (w:=w)).2 a ha ea;obtain⟨p',q3,q4⟩:=(gh hv' (w:=w)).2 a' ha ea';have q5:=hl m p p' q2 q4 d el w h0 h1 h2;rw[List.range'_succ];simp only[Op.eqItems,Wa,Sem.run_bind,q1,q3,q5,Result.andThen_ok];cases rr with|true=>exact ih (j+1) b (by simp_all)|false=>simp_all
  exact key n 0 b (by simp_all)
 .revert hf;generalize(P.fieldsOf el).toList=fs;intro hf;cases fs with|nil=>simp[uj]at hf|cons f fs=>
   simp only[uj]at hf;split at hf;.cases hf
   .simp[uU]at hf
theorem HG{op}{xt yt el}{n}{x y}{x' y'}(hop:o.op=.binOp op xt x y yt)(hx:aL nt x=some x')(hy:aL nt y=some y')(hu:P.underlying xt=some (.array n el))(h:aQ (me P op xt n el x' y') id ph e H k=1):Good P nt o e H k:=by
 unfold me at h;split at h;.rename_i q hc hs;exact wu hop hx hy (λm w xs ys l l' b h8 e1 e2 v1 v2=>MR hu hc hs 9998 m w xs ys l l' b h8 v1 v2) h
 .exact(aw h).elim
theorem Xf{op:BinOp}{xt yt:TypeId}{x y:Operand}(hop:o.op=.binOp op xt x y yt)(h:aQ (ai P nt o) id ph e H k=1):Good P nt o e H k:=by
 simp only[ai,hop]at h;have mem:x∈o.op.operands/\y∈o.op.operands:=by simp[hop,Op.operands]
 split at h;rotate_left;.exact(aw h).elim
 rename_i x' y' hx hy;have hnd:∀c,o.op≠.defer c:=by simp[hop]
 have hex:∀(ac:Act)(w:World),(execOp ac.eval o).run P w=((do eqGuard op xt x y (ac.eval x) (ac.eval y);binOp op xt (ac.eval x) (ac.eval y):Sem Value).run P w).andThen λv w'=>.ok (.value v) w':=by intro ac w;simp only[execOp,hop,Sem.run_bind,Sem.run_pure]
 unfold pR at h;split at h
 .rename_i kx hu;split at h
  .rename_i f hf;have h':aaK (lN kx) f x' y' id ph e H k=1:=h;unfold aaK at h';rw[aq]at h';obtain⟨k1,a,ha,h1⟩:=dI h';rw[aq]at h1;obtain⟨k2,b,hb,h2⟩:=dI h1;obtain⟨h3,h4⟩:=aU h2;obtain⟨h5,h6⟩:=aU h4;have e3:=cH h3;have e5:=cH h5;subst e3 e5;have h7:k (.bool (dW f a b)) H=1:=by rcases bV h6 with⟨h8,h9⟩|⟨h8,h9⟩<;>rw[h8]<;>exact h9
   refine⟨_,_,eZ.bJ hnd λm w ac ho=>?_,h7⟩;have vx:=ho x mem.1 x' hx;have vy:=ho y mem.2 y' hy;rw[ha]at vx;rw[hb]at vy;simp only[VR,dF]at vx vy;refine⟨.bool (dW f a b),?_,by simp only[VR]⟩;rw[hex,vx.1,vy.1,Sem.run_bind,nN];simp only[Result.andThen_ok,adG hf vx.2.1 vy.2.1]
  .split at h
   .rename_i f hf;have key:∀ky:IntKind,((si op=false/\ky=kx)\/(si op=true/\(ky.signed=true->ky.bits=64)))->MJ (lN kx) (lN ky) f x' y' id ph e H k=1->Good P nt o e H k:=by intro ky hky h';obtain⟨a,b,ha,hb,h1⟩:=BK h';obtain⟨r,h2,h3⟩:=Pk (P:=P) (t:=xt) (op:=op) (k:=kx) (ky:=ky) hf hky h1;refine⟨_,_,eZ.bJ hnd λm w ac ho=>?_,h2⟩;have vx:=ho x mem.1 x' hx;have vy:=ho y mem.2 y' hy;rw[ha]at vx;rw[hb]at vy;simp only[VR,dF]at vx vy;obtain⟨h4,h5⟩:=h3 vx.2.1 vy.2.1;refine⟨.int kx (toI kx r),?_,by simp only[VR,dF];exact⟨trivial,h4,xC kx⟩⟩;rw[hex,vx.1,vy.1,Sem.run_bind,nN];simp only[Result.andThen_ok,h5 w]
    split at h
    .rename_i hs;split at h
     .rename_i ky hky;split at h;.rename_i hok;exact key ky (YE ⟨hs,λhsg=>by simpa[aeS,hsg]using hok⟩) h
      .exact(aw h).elim
     .exact(aw h).elim
    .rename_i hs;exact key kx (YH ⟨by simpa using hs,rfl⟩) h
   .exact(aw h).elim
 .have strs:∀(m:M)(ac:Act),OR m nt e ac o->∀l1 n1 l2 n2,aA x' e=.str l1 n1->aA y' e=.str l2 n2->ac.eval x=.string ⟨(aD l1 n1).toArray⟩/\n1<256^l1/\ac.eval y=.string ⟨(aD l2 n2).toArray⟩/\n2<256^l2:=by intro m ac ho l1 n1 l2 n2 e1 e2;have vx:=ho x mem.1 x' hx;have vy:=ho y mem.2 y' hy;rw[e1]at vx;rw[e2]at vy;simp only[VR]at vx vy;exact⟨vx.1,vx.2,vy.1,vy.2⟩
  have cmp:∀neg:Bool,(op=if neg then .neq else .eql)->RO neg x' y' id ph e H k=1->Good P nt o e H k:=by
   intro neg hneg h';unfold RO at h';rw[aq]at h';obtain⟨l1,n1,h1,h2⟩:=eo h';rw[aq]at h2;obtain⟨l2,n2,h3,h4⟩:=eo h2;have h5:k (.bool (if neg then !(decide (l1=l2)&&YR n1 n2)else(decide (l1=l2)&&YR n1 n2))) H=1:=by
    rcases bV h4 with⟨h5,h6⟩|⟨h5,h6⟩;.have:=cH h5;subst this;rcases bV h6 with⟨h7,h8⟩|⟨h7,h8⟩<;>rw[h7]<;>cases neg<;>simp<;>exact h8
    .rw[fM]at h5;rw[h5];cases neg<;>simp<;>exact h6
   refine⟨_,_,eZ.bJ hnd λm w ac ho=>?_,h5⟩;obtain⟨v1,v2,v3,v4⟩:=strs m ac ho l1 n1 l2 n2 h1 h3;refine⟨.bool (if neg then !(decide (l1=l2)&&YR n1 n2)else(decide (l1=l2)&&YR n1 n2)),?_,by simp only[VR]⟩;rw[hex,v1,v3,Sem.run_bind,nO];have hq:((⟨(aD l1 n1).toArray⟩:ByteArray).toList==(⟨(aD l2 n2).toArray⟩:ByteArray).toList)=(decide (l1=l2)&&YR n1 n2):=by
    by_cases hl:l1=l2;.subst hl;rw[abS v2 v4];simp
    .rw[decide_eq_false hl,Qn];simp only[beq_eq_false_iff_ne,ne_eq,ByteArray.toList_eq];intro he;have:=congrArg Wz he;simp[aK]at this;exact hl this
   subst hneg;cases neg;.simp only[Result.andThen_ok,YT,if_false,binOp,Op.stringOp,hq,Sem.run_pure]
   .simp only[Result.andThen_ok,if_true,binOp,Op.stringOp,hq,Sem.run_pure]
  split at h
  .have h':Ek x' y' id ph e H k=1:=h;unfold Ek at h';rw[aq]at h';obtain⟨l1,n1,h1,h2⟩:=eo h';rw[aq]at h2;obtain⟨l2,n2,h3,h4⟩:=eo h2;rw[ax]at h4;obtain⟨h5,h6⟩:=aU h4;rw[ax]at h6;refine⟨_,_,eZ.bJ hnd λm w ac ho=>?_,h6⟩;obtain⟨v1,v2,v3,v4⟩:=strs m ac ho l1 n1 l2 n2 h1 h3;have hlt:l1+l2<9223372036854775808:=eQ h5;have e1:Yg n1 (Yt n2 (Ym 8 l1))=n1+256^l1*n2:=by show n1+n2<<<(8*l1)=_;rw[Qm,QT,Wt]
   have hbig:¬((((l1+l2:Nat):Int))>IntKind.i64.max):=by simp[IntKind.max,IntKind.signed,IntKind.bits];omega
   refine⟨.string ⟨(aD (l1+l2) (n1+256^l1*n2)).toArray⟩,?_,?_⟩
   .rw[hex,v1,v3,Sem.run_bind,nO];have hs1:(⟨(aD l1 n1).toArray⟩:ByteArray).size=l1:=by simp[ByteArray.size,aK]
    have hs2:(⟨(aD l2 n2).toArray⟩:ByteArray).size=l2:=by simp[ByteArray.size,aK]
    have happ:(⟨(aD l1 n1).toArray⟩:ByteArray)++(⟨(aD l2 n2).toArray⟩:ByteArray)=⟨(aD (l1+l2) (n1+256^l1*n2)).toArray⟩:=by apply Go.WideShapes.bytes_inj;rw[fm _ _ _ _ v2];simp[ByteArray.data_append]
    simp only[Result.andThen_ok,binOp,Op.stringOp,hs1,hs2,if_neg hbig,happ,Sem.run_pure]
   .rw[e1];simp only[VR];refine⟨rfl,?_⟩;show n1+256^l1*n2<256^(l1+l2);rw[YG0];calc n1+256^l1*n2<256^l1+256^l1*n2:=by omega
     _=256^l1*(n2+1):=by rw[YL4,Wa,YG3]
     _<=256^l1*256^l2:=YA3 _ v4
  .exact cmp false (by simp) h
  .exact cmp true (by simp) h
  .exact(aw h).elim
 .rename_i hu;exact mj hop hx hy (YH ⟨rfl,hu⟩) (λe5=>by cases e5) h
 .rename_i hu;exact mj hop hx hy (YE (YH ⟨rfl,_,hu⟩)) (λe5=>by cases e5) h
 .rename_i hu;exact mj hop hx hy (YE (YE (YH ⟨rfl,_,hu⟩))) (λe5=>by cases e5) h
 .rename_i hu;exact mj hop hx hy (YE (YE (YE (YH ⟨rfl,_,_,hu⟩)))) (λe5=>by cases e5) h
 .rename_i hu;exact mj hop hx hy (YE (YE (YE (YE (YH ⟨rfl,_,_,_,hu⟩))))) (λe5=>by cases e5) h
 .rename_i hu;split at h;.rename_i hi;exact mj hop hx hy (YE (YE (YE (YE (YE ⟨rfl,_,hu⟩))))) (λ_=>by simpa using hi) h
  .exact(aw h).elim
 .rename_i fs hu;exact HB hop hx hy hu h
 .rename_i n el hu;exact HG hop hx hy hu h
 .exact(aw h).elim
 .exact(aw h).elim
end
end Go.Ev
end
