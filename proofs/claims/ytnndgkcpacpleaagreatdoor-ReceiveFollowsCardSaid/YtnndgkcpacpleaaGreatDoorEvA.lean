/- EvA: a part of the evaluator,of its logic,or of the laws' walk in it. -/
import Derived.Below
import Derived.Calls
import Derived.CallsIn
import Derived.OrdersIn
import Derived.RangeFuncRecord
import Derived.Orders
import Derived.Laws.Sem
import Derived.Laws.Entries
import Derived.KernelRfl
import Derived.Laws.Cells
import Derived.TacticsIn
import Derived.Lib.Strings
import Derived.Laws.Strings
import Derived.WideShapes
import Derived.Laws.StructEq
import Derived.ChangeKeysEq
open List renaming getElem?_eq_getElem → YA,length_append → YC,length_cons → YH,mem_cons_of_mem → YI,mem_cons_self → YJ,cons_append → YL,map_cons → YP,mem_of_getElem? → YS,replicate → YZ,mem_cons → Yb,getElem?_map → Yg,getElem?_append_right → Ym,getElem?_append_left → Yp,getElem?_take → Yu,getElem?_drop → Yy,range → WX,length → Wv,drop_drop → QA,getElem?_of_mem → QT,getElem?_cons_succ → Qf,map_take → Qu,map_drop → YC3
open Nat renaming le_refl → YB,lt_of_lt_of_le → YD,beq → YM,ble → YX,add → Yd,zero_le → Yf,lt_or_ge → Yh,mul → Yj,mod → Yq,le_trans → Yr,shiftLeft → Yt,blt → Yx,shiftRight → WC,mod_eq_of_lt → WE,shiftRight_eq_div_pow → WG,succ → WN,mul_one → WS,ble_eq_true_of_le → WV,div → Wf,lt_of_le_of_lt → Wk,sub → Wn,mul_comm → Wo,mod_lt → QG,and_two_pow_sub_one_eq_mod → QO,pow_mul → QS,ne_of_lt → QW,pow_succ → QX,le_of_lt → QY,min_eq_left → QZ,shiftLeft_eq → Qg,le_of_ble_eq_true → Qm,min_eq_right → Qp,mul_le_mul_left → Qr,land → Qt,pow → YB1,div_lt_of_lt_mul → YC4,mod_mul_right_div_self → YD4,pow_add → YG0,div_div_eq_div_mul → YH4,div_le_self → YJ0,xor → YM4,and_le_left → YO4
open Or renaming inr → YE,inl → YG
open Array renaming getElem?_eq_some_iff → YN,getElem?_toList → Yw,getElem?_modify → QM
open Bool renaming false_eq_true → YT,false_and → Qo,true_and → YL3
open Option renaming map_eq_some_iff → Ye,getD_some → Yl
open Int renaming toNat_natCast → Qn,fdiv_eq_ediv_of_nonneg → YE1,emod_eq_of_lt → YG1,mul_emod → YI0
open Prod renaming rec → YH1
set_option linter.unusedVariables false
set_option linter.unusedSimpArgs false
set_option linter.unusedSectionVars false
section
namespace Go.Ev
open Go.RowKit
abbrev R:=Nat
def no (c:Nat):R:=c+2
theorem av {c:Nat} (h:no c=1):False:=by
 have h':c+2=1:=h
 omega
inductive V where
 | int (k n:Nat)
 | bool (b:Bool)
 | str (len n:Nat)
 | ptr (b off:Nat)
 | pK
 | slice (b off len cap sz:Nat)
 | az
 | map (b:Nat)
 | yg
 | func (f:Nat) (caps:List V)
 | td (b:Nat)
 | lV
 | iface (t:Nat) (v:V)
 | GZ
 | agg (l:List V)
 | cH (l:List V)
def lT:IntKind->Nat
 | .i8=>0 | .i16=>1 | .i32=>2 | .i64=>3 | .u8=>4 | .u16=>5 | .u32=>6 | .u64=>7
def pC:Nat->IntKind
 | 0=>.i8 | 1=>.i16 | 2=>.i32 | 3=>.i64 | 4=>.u8 | 5=>.u16 | 6=>.u32 | _=>.u64
theorem dI (k:IntKind):pC (lT k)=k:=by cases k<;>rfl
theorem xU (k:IntKind):lT k<8:=by cases k<;>decide
inductive I8 where
 | i0 | i1 | i2 | i3 | i4 | i5 | i6 | i7
 deriving DecidableEq
inductive N8 (α:Type) where
 | mk (a0 a1 a2 a3 a4 a5 a6 a7:α)
abbrev Env:=N8 (N8 (N8 V))
inductive Slot where
 | mk (a b c:I8)
 deriving DecidableEq
inductive Arg where
 | s (s:Slot)
 | c (v:V)
inductive BF where
 | add (m:Nat) | sub (m:Nat) | mul (m:Nat) | afB | bor | ZU | ab7 (m:Nat) | shl (m bits:Nat) | shr (half bits:Nat) | quo (half:Nat) | rem (half:Nat)
inductive CF where
 | eq | ne | lt (o m:Nat) | le (o m:Nat) | gt (o m:Nat) | ge (o m:Nat)
inductive lA where
 | bad
 | kN (x:Arg)
 | pick (c x y:Arg)
 | ir (z:List V)
 | aaX (n:Nat)
 | box (x:Arg)
 | build (zero:List V) (parts:List (Nat × Nat × Arg))
 | iF (u8:Bool) (len:Nat) (zero:List V) (parts:List (Nat × Nat × Arg))
 | cJ (a:Arg)
 | bR (n:Nat) (a:Arg)
 | eh (a x:Arg)
 | ei (n:Nat) (a x:Arg)
 | Kc (x:Arg)
 | bin (kd ky:Nat) (f:BF) (x y:Arg)
 | cmp (kd:Nat) (f:CF) (x y:Arg)
 | Ts (x y:Arg)
 | KU (neg:Bool) (x y:Arg)
 | eqv (kc:Nat) (neg:Bool) (x y:Arg)
 | J3 (x:Arg)
 | EM (src dst mode c:Nat) (x:Arg)
 | L3 (x:Arg)
 | L4 (x:Arg)
 | mkI (t:Nat) (x:Arg)
 | Su (f:Nat) (caps:List Arg)
 | mkMap
 | mkSlice (u8:Bool) (zero:List V) (l c:Arg)
 | slS (x:Arg) (lo hi:Option Arg)
 | slV (size:Nat) (x:Arg) (lo hi mx:Option Arg)
 | slA (n size:Nat) (x:Arg) (lo hi mx:Option Arg)
 | fZ (off:Nat) (x:Arg)
 | RN (off:Nat) (x:Arg)
 | RO (off n:Nat) (x:Arg)
 | ixA (len size:Nat) (x i:Arg)
 | xR (size:Nat) (x i:Arg)
 | ixS (x i:Arg)
 | ixG (len size:Nat) (agg:Bool) (x i:Arg)
 | look (ks:Bool) (zero:V) (ok:Bool) (m x:Arg)
 | aaW (ks:Bool) (m x y:Arg)
 | agc (ks:Bool) (m x:Arg)
 | RH (x:Arg) (i:Nat)
 | call (f:Nat) (args:List Arg)
 | Q2 (x:Arg) (args:List Arg)
 | app (u8:Bool) (size:Nat) (s x:Arg)
 | copy (size:Nat) (d s:Arg)
 | aeG (x:Arg)
 | fD (x:Arg)
 | NL (x:Arg)
 | cap (x:Arg)
 | mm (kd o m:Nat) (mx:Bool) (x y:Arg)
 | gf (cls:List Nat) (neg:Bool) (x y:Arg)
 | mm3 (kd o m:Nat) (mx:Bool) (x y z:Arg)
 | tas (t:Nat) (x:Arg)
inductive rQ where
 | mk (id:Nat) (dst:Option Slot) (guard:Option (Slot × Bool)) (cls:Nat) (op:lA)
inductive uY where
 | mk (id:Nat) (dst:Option Slot) (guard:Option (Slot × Bool)) (tag i bf:Nat) (ad:Arg) (op:lA)
inductive RC where
 | mk (nt fid:Nat) (c:Code)
inductive ah where
 | bad
 | skip
 | sO (ops:List rQ)
 | sm (ops:List rQ)
 | aax (ops:List uY)
 | abH (ops:List uY)
 | seq (a b:ah)
 | cond (c:Arg) (a b:ah)
 | block (id:Nat) (a:ah)
 | loop (a:ah)
 | exit (id:Nat)
 | ret
 | kT (g:Arg) (ps:List Slot) (assign body:RC)
 | CM (g:Arg) (ps:List Slot) (assign body:RC)
inductive RV where
 | tmp (s:Slot)
 | EC (s:Slot)
 | gD (s:Slot) (n:Nat)
def d8:Nat->I8
 | 0=>.i0 | 1=>.i1 | 2=>.i2 | 3=>.i3 | 4=>.i4 | 5=>.i5 | 6=>.i6 | _=>.i7
def bg (t:Nat):Slot:=.mk (d8 (t/64)) (d8 (t/8%8)) (d8 (t%8))
def enc:List UInt8->Nat
 | []=>0
 | x :: l=>x.toNat+256 * enc l
def nh:Value->Option V
 | .bool b=>some (.bool b)
 | .int k n=>if k.wrap n == n then some (.int (lT k) (n % (2 ^ k.bits:Nat)).toNat) else none
 | .string s=>some (.str s.data.toList.length (enc s.data.toList))
 | .pointer none=>some .pK
 | .slice none 0 0=>some .az
 | .map none=>some .yg
 | .nilFunc=>some .lV
 | .nilIface=>some .GZ
 | _=>none
def consts:List Value->Option (List V)
 | []=>some []
 | v :: l=>match nh v,consts l with
  | some u,some r=>some (u :: r)
  | _,_=>none
def BU:Value->Option V
 | .agg cs=>(consts cs.toList).map .agg
 | .tuple cs=>(consts cs.toList).map .cH
 | v=>nh v
def aH (nt:Nat):Operand->Option Arg
 | .tmp t=>if t<nt then some (.s (bg t)) else none
 | .const v=>(BU v).map .c
 | .func f=>some (.c (.func (2 * f) []))
 | .global _=>none
def bU (nt:Nat):List Operand->Option (List Arg)
 | []=>some []
 | x :: l=>match aH nt x,bU nt l with
  | some a,some r=>some (a :: r)
  | _,_=>none
section
variable (P:Program) (nt:Nat)
def kindOf (t:TypeId):Option IntKind:=match P.underlying t with
 | some (.int k)=>some k
 | _=>none
def Gw (t:TypeId):Bool:=match P.underlying t with
 | some (.int .u8)=>true
 | _=>false
def lN (t:TypeId):Option Bool:=match P.underlying t with
 | some (.struct _) | some (.array _ _)=>some true
 | some _=>some false
 | none=>none
def qI (t:TypeId):Option Nat:=(P.info? t).map (·.size)
def qU (t:TypeId):Option (List V):=match P.info? t with
 | some i=>match i.zero with
  | some z=>consts z.cells.toList
  | none=>none
 | none=>none
def zeroV (t:TypeId):Option V:=match P.info? t with
 | some i=>match i.zero with
  | some z=>BU z
  | none=>none
 | none=>none
def half (k:IntKind):Nat:=if k.signed then 2 ^ (k.bits-1) else 2 ^ k.bits
def fL (k:IntKind):Nat:=if k.signed then 2 ^ (k.bits-1) else 0
def ZJ (op:BinOp) (k:IntKind):Option BF:=match op with
 | .add=>some (.add (2 ^ k.bits))
 | .sub=>some (.sub (2 ^ k.bits))
 | .mul=>some (.mul (2 ^ k.bits))
 | .and=>some .afB
 | .or=>some .bor
 | .xor=>some .ZU
 | .andNot=>some (.ab7 (2 ^ k.bits))
 | .shl=>some (.shl (2 ^ k.bits) k.bits)
 | .shr=>some (.shr (half k) k.bits)
 | .quo=>some (.quo (half k))
 | .rem=>some (.rem (half k))
 | _=>none
def aaa (op:BinOp) (k:IntKind):Option CF:=match op with
 | .eql=>some .eq
 | .neq=>some .ne
 | .lss=>some (.lt (fL k) (2 ^ k.bits))
 | .leq=>some (.le (fL k) (2 ^ k.bits))
 | .gtr=>some (.gt (fL k) (2 ^ k.bits))
 | .geq=>some (.ge (fL k) (2 ^ k.bits))
 | _=>none
def sE:BinOp->Bool
 | .shl | .shr=>true
 | _=>false
def aeT (k:IntKind):Bool:=!k.signed || k.bits == 64
def isC:Arg->Bool
 | .c _=>true
 | .s _=>false
def nS (kc:Nat) (op:BinOp) (x y:Arg):lA:=match op with
 | .eql=>.eqv kc false x y
 | .neq=>.eqv kc true x y
 | _=>.bad
def ux (rc:TypeId->Option (List Nat)):List Field->Nat->Option (List Nat)
 | [],_=>some []
 | f :: l,off=>if f.name == "_" then none else match rc f.type,qI P f.type,ux rc l (off+(qI P f.type).getD 0) with
  | some c,some s,some r=>if f.offset == off && s == c.length then some (c ++ r) else none
  | _,_,_=>none
def vd:Nat->TypeId->Option (List Nat)
 | 0,_=>none
 | d+1,t=>match P.underlying t with
  | some .bool=>some [0]
  | some (.int _)=>some [1]
  | some .string=>some [2]
  | some (.struct fs)=>if P.stoodInHeld t then none else ux P (vd d) fs.toList 0
  | _=>none
def je (op:BinOp) (t:TypeId) (c:List Nat) (x y:Arg):lA:=if P.eqGuardType P.depth t then .bad else match op with
 | .eql=>.gf c false x y
 | .neq=>.gf c true x y
 | _=>.bad
def mj (op:BinOp) (t:TypeId) (x y:Arg):lA:=match vd P 4 t with
 | some c=>je P op t c x y
 | none=>.bad
def mn (op:BinOp) (t:TypeId) (n:Nat) (el:TypeId) (x y:Arg):lA:=match vd P 1 el,qI P el with
 | some [q],some 1=>je P op t (YZ n q) x y
 | _,_=>.bad
def qe (op:BinOp) (xt yt:TypeId) (x y:Arg):lA:=match P.underlying xt with
 | some (.int k)=>match aaa op k with
  | some f=>.cmp (lT k) f x y
  | none=>match ZJ op k with
   | some f=>if sE op then (match kindOf P yt with | some ky=>if aeT ky then .bin (lT k) (lT ky) f x y else .bad | none=>.bad) else .bin (lT k) (lT k) f x y
   | none=>.bad
 | some .string=>match op with
  | .add=>.Ts x y
  | .eql=>.KU false x y
  | .neq=>.KU true x y
  | _=>.bad
 | some .bool=>nS 0 op x y
 | some (.pointer _)=>nS 1 op x y
 | some (.slice _)=>nS 2 op x y
 | some (.map _ _)=>nS 3 op x y
 | some (.func _ _ _)=>nS 4 op x y
 | some (.interface _)=>if isC x || isC y then nS 5 op x y else .bad
 | some (.struct _)=>mj P op xt x y
 | some (.array n el)=>mn P op xt n el x y
 | some _=>.bad
 | none=>.bad
def tK (k k':IntKind) (x:Arg):lA:=
 if k.signed && k.bits<k'.bits then .EM (lT k) (lT k') (2 ^ (k.bits-1)) (2 ^ k'.bits-2 ^ k.bits) x
 else .EM (lT k) (lT k') 0 (2 ^ k'.bits) x
def Mw (fs:Array Field):Option (List (Nat × Nat)):=fs.toList.mapM λf=>(P.info? f.type).map λi=>(f.offset,i.size)
def kH (pl:List (Nat × Nat)):List (Nat × Arg)->Option (List (Nat × Nat × Arg))
 | []=>some []
 | (i,a):: l=>match pl[i]?,kH pl l with
  | some p,some r=>some ((p.1,p.2,a):: r)
  | _,_=>none
def qg (s:Nat) (l:List (Nat × Arg)):List (Nat × Nat × Arg):=l.map λp=>(p.1*s,s,p.2)
def ek:List (Nat × Operand)->Option (List (Nat × Arg))
 | []=>some []
 | (i,x):: l=>match aH nt x,ek l with
  | some a,some r=>some ((i,a):: r)
  | _,_=>none
def Kj:Option Operand->Option (Option Arg)
 | none=>some none
 | some x=>(aH nt x).map some
def ig:Nat->List V->List V
 | 0,_=>[]
 | n+1,l=>l ++ ig n l
def NI (t:TypeId):Option Bool:=match P.underlying t with
 | some (.int _)=>some false
 | some .string=>some true
 | _=>none
def z8:List V->Bool
 | []=>true
 | .int 4 0 :: l=>z8 l
 | _=>false
def aaU (t:TypeId):Bool:=match P.underlying t with
 | some .string | some (.slice _) | some (.map _ _)=>true
 | _=>false
def ug (t:TypeId):Option TypeId:=match P.underlying t with
 | some (.slice e)=>some e
 | _=>none
def abJ (t:TypeId) (s:Nat):Bool:=match qU P t with
 | some z=>z.length == s
 | none=>false
def dg (b:Builtin) (asL:List Operand) (ts:List TypeId):lA:=match b with
 | .len=>(match bU nt asL,ts with
  | some [x],t :: _=>(match P.underlying t with
   | some .string=>.aeG x
   | some (.slice _)=>.fD x
   | some (.map _ _)=>.NL x
   | _=>.bad)
  | _,_=>.bad)
 | .cap=>(match bU nt asL,ts with
  | some [x],t :: _=>(match ug P t with | some _=>.cap x | none=>.bad)
  | _,_=>.bad)
 | .append=>(match bU nt asL,ts with
  | some [s,x],[st,xt]=>(match ug P st with
   | some e=>(match qI P e,P.info? e with
    | some s',some i=>if 0<s' && i.bytes<=65536 && abJ P e s' && aaU P xt then .app (Gw P e && s' == 1) s' s x else .bad
    | _,_=>.bad)
   | none=>.bad)
  | _,_=>.bad)
 | .copy=>(match bU nt asL,ts with
  | some [d,s],dt :: _=>(match ug P dt with
   | some e=>(match qI P e with | some s'=>.copy s' d s | none=>.bad)
   | none=>.bad)
  | _,_=>.bad)
 | .delete=>(match bU nt asL,ts with
  | some [m,x],mt :: _=>(match P.underlying mt with
   | some (.map kt _)=>(match NI P kt with
    | some ks=>.agc ks m x
    | none=>.bad)
   | _=>.bad)
  | _,_=>.bad)
 | .max=>(match bU nt asL,ts with
  | some [x,y],t :: _=>(match kindOf P t with | some k=>.mm (lT k) (fL k) (2 ^ k.bits) true x y | none=>.bad)
  | some [x,y,z],t :: _=>(match kindOf P t with | some k=>.mm3 (lT k) (fL k) (2 ^ k.bits) true x y z | none=>.bad)
  | _,_=>.bad)
 | .min=>(match bU nt asL,ts with
  | some [x,y],t :: _=>(match kindOf P t with | some k=>.mm (lT k) (fL k) (2 ^ k.bits) false x y | none=>.bad)
  | some [x,y,z],t :: _=>(match kindOf P t with | some k=>.mm3 (lT k) (fL k) (2 ^ k.bits) false x y z | none=>.bad)
  | _,_=>.bad)
 | _=>.bad
def ai (o:Oper):lA:=
 match o.op with
 | .move x | .assign x=>match aH nt x with | some a=>.kN a | none=>.bad
 | .pick c x y=>match aH nt c,aH nt x,aH nt y with | some c,some a,some b=>.pick c a b | _,_,_=>.bad
 | .alloc t=>match qU P t,P.underlying t with
  | some z,some (.array n _)=>if z8 z && z.length == n then .aaX n else .ir z
  | some z,some _=>.ir z
  | _,_=>.bad
 | .box _ x=>match aH nt x with | some a=>.box a | none=>.bad
 | .build t parts=>match qU P t,ek nt parts.toList,P.underlying t with
  | some z,some ps,some (.struct fs)=>match Mw P fs with | some pl=>(match kH pl ps with | some q=>.build z q | none=>.bad) | none=>.bad
  | some z,some ps,some (.array _ e)=>match qI P e with | some s=>.build z (qg s ps) | none=>.bad
  | _,_,_=>.bad
 | .buildSlice t len parts=>match ek nt parts.toList,P.underlying t with
  | some ps,some (.slice e)=>match qI P e,qU P e with
   | some s,some z=>if len * s<=1024 && z.length == s then .iF (Gw P e && 0<len) len (ig len z) (qg s ps) else .bad
   | _,_=>.bad
  | _,_=>.bad
 | .load t a=>match aH nt a,lN P t,qI P t with
  | some a,some true,some n=>.bR n a
  | some a,some false,_=>.cJ a
  | _,_,_=>.bad
 | .store t a x=>match aH nt a,aH nt x,lN P t,qI P t with
  | some a,some x,some true,some n=>.ei n a x
  | some a,some x,some false,some 1=>.eh a x
  | _,_,_,_=>.bad
 | .nilCheck x=>match aH nt x with | some a=>.Kc a | none=>.bad
 | .binOp op xt x y yt=>match aH nt x,aH nt y with | some x,some y=>qe P op xt yt x y | _,_=>.bad
 | .unOp op xt x=>match aH nt x,op with
  | some x,.not=>.J3 x
  | some x,.neg=>match kindOf P xt with | some k=>.bin (lT k) (lT k) (.sub (2 ^ k.bits)) (.c (.int (lT k) 0)) x | none=>.bad
  | some x,.xor=>match kindOf P xt with | some k=>.bin (lT k) (lT k) .ZU (.c (.int (lT k) (2 ^ k.bits-1))) x | none=>.bad
  | _,_=>.bad
 | .convert s d x=>match aH nt x,P.underlying s,P.underlying d with
  | some x,some (.int k),some (.int k')=>tK k k' x
  | some x,some (.slice e),some .string=>if Gw P e then .L3 x else .bad
  | some x,some .string,some (.slice e)=>if Gw P e then .L4 x else .bad
  | some x,some .string,some .string=>.Ts x (.c (.str 0 0))
  | _,_,_=>.bad
 | .makeInterface t x=>match aH nt x,P.underlying t with
  | some _,some (.interface _)=>.bad
  | some x,some _=>.mkI t x
  | _,_=>.bad
 | .typeAssert x _ t ok=>match ok,aH nt x,P.underlying t with
  | true,some _,some (.interface _)=>.bad
  | true,some x,some _=>.tas t x
  | _,_,_=>.bad
 | .makeFunc (.func f) first caps=>match first.toList,bU nt caps.toList with
  | [],some l=>.Su (2 * f) l
  | q :: qs,some []=>match bU nt (q :: qs) with | some l=>.Su (2 * f+1) l | none=>.bad
  | _,_=>.bad
 | .makeMap _ none=>.mkMap
 | .makeSlice t l c=>match aH nt l,aH nt c,P.underlying t with
  | some l,some c,some (.slice e)=>match qU P e,qI P e,P.info? e with
   | some z,some s,some i=>if z.length == s && 0<s && i.bytes<=65536 then .mkSlice (z8 z && s == 1) z l c else .bad
   | _,_,_=>.bad
  | _,_,_=>.bad
 | .slice t x lo hi mx=>match aH nt x,Kj nt lo,Kj nt hi,Kj nt mx with
  | some x,some lo,some hi,some mx=>match P.underlying t with
   | some .string=>match mx with | none=>.slS x lo hi | some _=>.bad
   | some (.slice e)=>match qI P e with | some s=>(match hi,mx with | none,some _=>.bad | _,_=>.slV s x lo hi mx) | none=>.bad
   | some (.array n e)=>match qI P e with | some s=>(match hi,mx with | none,some _=>.bad | _,_=>.slA n s x lo hi mx) | none=>.bad
   | _=>.bad
  | _,_,_,_=>.bad
 | .fieldAddr t x f=>match aH nt x,P.underlying t with
  | some x,some (.struct fs)=>match fs[f]? with
   | some fd=>match qI P fd.type with | some (_+1)=>.fZ fd.offset x | _=>.bad
   | none=>.bad
  | _,_=>.bad
 | .field t x f=>match aH nt x,P.underlying t with
  | some x,some (.struct fs)=>match fs[f]? with
   | some fd=>match lN P fd.type,qI P fd.type with
    | some true,some n=>.RO fd.offset n x
    | some false,some _=>.RN fd.offset x
    | _,_=>.bad
   | none=>.bad
  | _,_=>.bad
 | .indexAddr t x i=>match aH nt x,aH nt i,P.underlying t with
  | some x,some i,some (.array len e)=>match qI P e with | some s=>.ixA len s x i | none=>.bad
  | some x,some i,some (.slice e)=>match qI P e with | some s=>.xR s x i | none=>.bad
  | _,_,_=>.bad
 | .index t x i=>match aH nt x,aH nt i,P.underlying t with
  | some x,some i,some .string=>.ixS x i
  | some x,some i,some (.array len e)=>match qI P e,lN P e with | some s,some b=>.ixG len s b x i | _,_=>.bad
  | _,_,_=>.bad
 | .lookup t m x ok=>match aH nt m,aH nt x,P.underlying t with
  | some m,some x,some (.map kt e)=>match zeroV P e,NI P kt with
   | some z,some ks=>.look ks z ok m x
   | _,_=>.bad
  | _,_,_=>.bad
 | .mapUpdate t m x y | .insert t m x y=>match aH nt m,aH nt x,aH nt y,P.underlying t with
  | some m,some x,some y,some (.map kt _)=>match NI P kt with
   | some ks=>.aaW ks m x y
   | none=>.bad
  | _,_,_,_=>.bad
 | .extract x i=>match aH nt x with | some x=>.RH x i | none=>.bad
 | .call {callee:=.value (.func f),args,argTypes:=_ }=>match bU nt args.toList,P.funcs[f]? with
  | some l,some _=>.call (2 * f) l
  | _,_=>.bad
 | .call {callee:=.value (.tmp t),args,argTypes:=_ }=>match aH nt (.tmp t),bU nt args.toList with | some x,some l=>.Q2 x l | _,_=>.bad
 | .call {callee:=.builtin b,args,argTypes:=ts }=>dg P nt b args.toList ts.toList
 | _=>.bad
def bK:lA->Bool
 | .kN _ | .pick _ _ _ | .build _ _ | .Kc _ | .bin .. | .cmp .. | .Ts .. | .KU .. | .eqv .. | .J3 _ | .EM .. | .mkI .. | .tas .. | .Su .. | .slS .. | .slV .. | .slA .. | .fZ .. | .RN .. | .RO .. | .ixA .. | .xR .. | .ixS .. | .ixG .. | .RH .. | .gf ..=>true
 | _=>false
def guardOf (ops:Array Oper) (g:Option (Nat × Bool)):Option (Option (Slot × Bool)):=match g with
 | none=>some none
 | some (j,b)=>match ops[j]? with
  | some o=>match o.dst with
   | some d=>if d<nt then some (some (bg d,b)) else none
   | none=>none
  | none=>none
def sq (d:Option Tmp):Option (Option Slot):=match d with
 | none=>some none
 | some d=>if d<nt then some (some (bg d)) else none
def ic (l:List Bool) (bf:Array Nat) (i:Nat):Bool:=l.zipIdx.all λp=>p.1 || p.2 == i || (bf.getD i 0).testBit p.2 || (bf.getD p.2 0).testBit i
def lh:lA->Bool
 | .ir _ | .aaX _=>true
 | _=>false
def dy (l al:List Bool) (bf:Array Nat) (i:Nat):Bool:=!(al.getD i false) && l.zipIdx.all λp=>p.1 || p.2 == i || (bf.getD i 0).testBit p.2 || (bf.getD p.2 0).testBit i || (al.getD p.2 false && Yx i p.2)
def dn (base:Nat) (ops:Array Oper) (pl al:List Bool) (bf:Array Nat):List Oper->Nat->Option (List rQ)
 | [],_=>some []
 | o :: l,i=>match sq nt o.dst,guardOf nt ops o.guard,dn base ops pl al bf l (i+1) with
  | some d,some g,some r=>
   let c:=ai P nt o
   some (.mk 0 d g (if bK c || dy pl al bf i then 0 else 1) c :: r)
  | _,_,_=>none
def vR (ops:Array Oper) (o:Oper):List Tmp:=o.dst.toList ++ o.looksAt ops
def jN (ops:Array Oper) (bf:Array Nat):Bool:=
 ops.toList.zipIdx.all λp=>ops.toList.zipIdx.all λq=>p.2 == q.2 || (match p.1.dst with
  | none=>true
  | some d=>!(vR ops q.1).contains d || (if p.2<q.2 then (bf.getD q.2 0).testBit p.2 else (bf.getD p.2 0).testBit q.2))
def lE (ops:Array Oper):Bool:=ops.toList.zipIdx.all λp=>p.1.after.toList.all λe=>!Region.binds .any e || e.on<p.2
def Gu:lA->Bool
 | .cJ _ | .bR _ _=>true
 | _=>false
def Cm:lA->Bool
 | .eh _ _ | .ei _ _ _ | .app _ _ _ _=>true
 | _=>false
def qY:lA->Arg
 | .cJ a | .bR _ a=>a
 | .eh a _ | .ei _ a _=>a
 | .app _ _ s _=>s
 | .box _=>.c .az
 | _=>.c .pK
def qP:lA->Bool
 | .box _=>true
 | _=>false
def jG (bf:Array Nat) (i j:Nat):Bool:=(bf.getD i 0).testBit j || (bf.getD j 0).testBit i
def kL (cs:List lA) (bf:Array Nat) (i:Nat):Bool:=qP (cs.getD i .bad) && cs.zipIdx.any λq=>Cm q.1 && Yx i q.2 && !(jG bf i q.2)
def adu (cs:List lA) (bf:Array Nat) (i:Nat):Bool:=Cm (cs.getD i .bad) && cs.zipIdx.all λq=>bK q.1 || Gu q.1 || q.2 == i || jG bf i q.2 || kL cs bf q.2
def tU (l la:List Bool) (bf:Array Nat) (i:Nat):Bool:=l.zipIdx.all λp=>p.1 || p.2 == i || (bf.getD i 0).testBit p.2 || (bf.getD p.2 0).testBit i || (la.getD p.2 false && Yx p.2 i)
def Sj (cs:List lA) (bf:Array Nat):List Bool:=cs.zipIdx.map λq=>kL cs bf q.2
def ru (cs:List lA) (bf:Array Nat) (i:Nat):Bool:=Gu (cs.getD i .bad) && cs.zipIdx.any λq=>adu cs bf q.2 && !(jG bf i q.2)
def aeN (cs:List lA) (bf:Array Nat):List Bool:=cs.zipIdx.map λq=>bK q.1 || ru cs bf q.2
def oh (cs:List lA) (bf:Array Nat) (i:Nat):Bool:=tU (aeN cs bf) (Sj cs bf) bf i && (Cm (cs.getD i .bad) || ic (cs.map bK) bf i)
def Za (cs:List lA) (bf:Array Nat):Bool:=cs.zipIdx.any λq=>Cm q.1 && !(ic (cs.map bK) bf q.2)
def lH (cs:List lA) (bf:Array Nat) (c:lA) (i:Nat):Nat:=if ru cs bf i then 2 else if bK c then 0 else if oh cs bf i then (if ic (cs.map bK) bf i then 0 else 3) else if kL cs bf i then 4 else 1
def iG (base:Nat) (ops:Array Oper) (cs:List lA) (bf:Array Nat):List Oper->Nat->Option (List uY)
 | [],_=>some []
 | o :: l,i=>match sq nt o.dst,guardOf nt ops o.guard,iG base ops cs bf l (i+1) with
  | some d,some g,some r=>some (.mk 0 d g (lH cs bf (ai P nt o) i) i (bf.getD i 0) (qY (ai P nt o)) (ai P nt o):: r)
  | _,_,_=>none
def xrs:List Nat:=[]
def Dt (c:lA):Nat:=if bK c then 0 else if Gu c then 5 else 6
def iH (base:Nat) (ops:Array Oper):List Oper->Nat->Option (List uY)
 | [],_=>some []
 | o :: l,i=>match sq nt o.dst,guardOf nt ops o.guard,iH base ops l (i+1) with
  | some d,some g,some r=>some (.mk 0 d g (Dt (ai P nt o)) i 0 (qY (ai P nt o)) (ai P nt o):: r)
  | _,_,_=>none
def vv (c:lA):Bool:=bK c || Gu c
def xOK (cs:List lA) (bf:Array Nat):Bool:=cs.zipIdx.all λq=>vv q.1 || ic (cs.map vv) bf q.2
def dj (o:Oper):Option (TypeId × Nat × Nat):=match o.op,o.dst,o.guard with
 | .load t (.tmp s),some d,none=>some (t,s,d)
 | _,_,_=>none
def lS (o:Oper):Bool:=(dj o).isSome
def Jd (ops:Array Oper) (o:Oper):Bool:=match o.op,o.dst,o.guard with
 | .store t (.tmp s) (.tmp d),none,none=>o.after.toList.any λe=>Region.binds .any e && (match ops[e.on]? with | some o'=>dj o' == some (t,s,d) | none=>false)
 | _,_,_=>false
def kM (ops:Array Oper):List Nat:=ops.toList.filterMap λo=>(dj o).map (·.2.2)
def SP (t:TypeId):Bool:=match lN P t with
 | some true=>(qI P t).isSome
 | some false=>qI P t == some 1
 | none=>false
def By (ops:Array Oper):Bool:=
 lE ops && (ops.toList.all λo=>lS o || Jd ops o) && decide (kM ops).Nodup && ops.toList.all λo=>match dj o with
  | some (t,s,_)=>!(kM ops).contains s && SP P t
  | none=>true
def U6 (base:Nat) (ops:Array Oper) (draw:Bool):ah:=
 if draw then
  if By P ops then (match dn P nt base ops [] [] #[] (ops.toList.filter lS) 0 with
   | some l=>.sO l
   | none=>.bad) else
  let bf:=Region.before ops
  if jN ops bf && lE ops then
   if xrs.contains base && xOK (ops.toList.map (ai P nt)) bf then (match iH P nt base ops ops.toList 0 with
    | some l=>.abH l
    | none=>.bad) else
   if Za (ops.toList.map (ai P nt)) bf then (match iG P nt base ops (ops.toList.map (ai P nt)) bf ops.toList 0 with
    | some l=>.aax l
    | none=>.bad) else
   match dn P nt base ops (ops.toList.map λo=>bK (ai P nt o)) (ops.toList.map λo=>lh (ai P nt o)) bf ops.toList 0 with
   | some l=>.sm l
   | none=>.bad
  else .bad
 else match dn P nt base ops [] [] #[] ops.toList 0 with
  | some l=>.sO l
  | none=>.bad
def gY:List Tmp->Option (List Slot)
 | []=>some []
 | t :: l=>match gY l with
  | some r=>if t<nt then some (bg t :: r) else none
  | none=>none
def iv (fid:Nat) (inl:Bool):Code->ah
 | .skip=>.skip
 | .region id ops draw=>U6 P nt (fid * 100000+id * 100) ops draw
 | .seq a b=>.seq (iv fid inl a) (iv fid inl b)
 | .cond c a b=>match aH nt c with
  | some x=>.cond x (iv fid inl a) (iv fid inl b)
  | none=>.bad
 | .block id a=>.block id (iv fid inl a)
 | .loop a=>.loop (iv fid inl a)
 | .exit id=>.exit id
 | .ret=>.ret
 | .rangeFunc g ps asL bo=>if inl then (match aH nt g,gY nt ps.toList with
  | some x,some l=>.CM x l (.mk nt fid asL) (.mk nt fid bo)
  | _,_=>.bad) else match aH nt g,gY nt ps.toList with
  | some x,some l=>.kT x l (.mk nt fid asL) (.mk nt fid bo)
  | _,_=>.bad
 | _=>.bad
def aP:RC->ah
 | .mk nt fid c=>iv P nt fid true c
def lD (l:List ResultVar):Option (List RV):=match l with
 | []=>some []
 | .tmp t :: l=>match lD l with
  | some r=>if t<nt then some (.tmp (bg t):: r) else none
  | none=>none
 | .cell a t :: l=>match lD l,lN P t,qI P t with
  | some r,some false,_=>if a<nt then some (.EC (bg a):: r) else none
  | some r,some true,some n=>if a<nt then some (.gD (bg a) n :: r) else none
  | _,_,_=>none
end
end Go.Ev
end
section
namespace Go.Ev
open Go.RowKit
def aB:Nat->Nat->List UInt8
 | 0,_=>[]
 | l+1,n=>UInt8.ofNat (n % 256):: aB l (n / 256)
def eg (k:IntKind):Nat:=2 ^ k.bits
def toI (k:IntKind) (n:Nat):Int:=k.wrap (n:Int)
structure M where
 b:Nat->Nat->Prop
 z:Nat->Nat->Prop
def M.le (m m':M):Prop:=(∀ b c,m.b b c->m'.b b c)/\∀ c z,m.z c z->m'.z c z
mutual
def VR (mu:M):V->Value->Prop
 | .int k n,v=>v = .int (pC k) (toI (pC k) n)/\n<eg (pC k)/\k<8
 | .bool b,v=>v = .bool b
 | .str l n,v=>v = .string ⟨(aB l n).toArray⟩/\n<256 ^ l
 | .ptr b o,v=>∃ c,v = .pointer (some ⟨c,o,none⟩)/\mu.b b c
 | .pK,v=>v = .pointer none
 | .slice b o l cp sz,v=>∃ c cap o' sp,v = .slice (some ⟨c,o',sp⟩) l cap/\mu.b b c/\l<=cap/\((∀ q,cp=q+1->cap=q)/\(cp=0->cap=0\/(mu.z c (o'+cap * sz)/\cap<9223372036854775808)))/\(o'=o/\sp=none\/cap=0)
 | .az,v=>v = .slice none 0 0
 | .map b,v=>∃ c,v = .map (some c)/\mu.b b c
 | .yg,v=>v = .map none
 | .func f l,v=>∃ cs,v = .func (.func (f / 2)) (if f % 2=0 then #[] else cs) (if f % 2=0 then cs else #[])/\cm mu l cs.toList
 | .td b,v=>∃ c,v = .func (.yield c) #[] #[]/\mu.b b c
 | .lV,v=>v = .nilFunc
 | .iface t x,v=>∃ y,v = .iface t y/\VR mu x y
 | .GZ,v=>v = .nilIface
 | .agg l,v=>∃ cs,v = .agg cs/\cm mu l cs.toList
 | .cH l,v=>∃ cs,v = .tuple cs/\cm mu l cs.toList
def cm (mu:M):List V->List Value->Prop
 | [],cs=>cs=[]
 | v :: l,cs=>∃ c r,cs=c :: r/\VR mu v c/\cm mu l r
end
mutual
theorem VR.mono {mu mu':M} (h:mu.le mu'):∀ (v:V) (c:Value),VR mu v c->VR mu' v c
 | .int ..,_,hv=>by simpa only [VR] using hv
 | .bool _,_,hv=>by simpa only [VR] using hv
 | .str ..,_,hv=>by simpa only [VR] using hv
 | .ptr ..,_,hv=>by simp only [VR]at hv ⊢;obtain ⟨c,h1,h2⟩:=hv;exact ⟨c,h1,h.1 _ _ h2⟩
 | .pK,_,hv=>by simpa only [VR] using hv
 | .slice ..,_,hv=>by simp only [VR]at hv ⊢;obtain ⟨c,cap,o',sp,h1,h2,h3,⟨h4,h5⟩,h6⟩:=hv;exact ⟨c,cap,o',sp,h1,h.1 _ _ h2,h3,⟨h4,λe=>(h5 e).imp id λq=>⟨h.2 _ _ q.1,q.2⟩⟩,h6⟩
 | .az,_,hv=>by simpa only [VR] using hv
 | .map _,_,hv=>by simp only [VR]at hv ⊢;obtain ⟨c,h1,h2⟩:=hv;exact ⟨c,h1,h.1 _ _ h2⟩
 | .yg,_,hv=>by simpa only [VR] using hv
 | .func _ l,_,hv=>by simp only [VR]at hv ⊢;obtain ⟨c,h1,h2⟩:=hv;exact ⟨c,h1,cm.mono h l _ h2⟩
 | .td _,_,hv=>by simp only [VR]at hv ⊢;obtain ⟨c,h1,h2⟩:=hv;exact ⟨c,h1,h.1 _ _ h2⟩
 | .lV,_,hv=>by simpa only [VR] using hv
 | .iface _ x,_,hv=>by simp only [VR]at hv ⊢;obtain ⟨c,h1,h2⟩:=hv;exact ⟨c,h1,VR.mono h x _ h2⟩
 | .GZ,_,hv=>by simpa only [VR] using hv
 | .agg l,_,hv=>by simp only [VR]at hv ⊢;obtain ⟨c,h1,h2⟩:=hv;exact ⟨c,h1,cm.mono h l _ h2⟩
 | .cH l,_,hv=>by simp only [VR]at hv ⊢;obtain ⟨c,h1,h2⟩:=hv;exact ⟨c,h1,cm.mono h l _ h2⟩
theorem cm.mono {mu mu':M} (h:mu.le mu'):∀ (l:List V) (cs:List Value),cm mu l cs->cm mu' l cs
 | [],_,hv=>by simpa only [cm] using hv
 | v :: l,_,hv=>by
  simp only [cm]at hv ⊢
  obtain ⟨c,r,h1,h2,h3⟩:=hv
  exact ⟨c,r,h1,VR.mono h v _ h2,cm.mono h l _ h3⟩
end
theorem cm.length {mu:M}:∀ {l:List V} {cs:List Value},cm mu l cs->cs.length=l.length
 | [],_,h=>by simp only [cm]at h;subst h;rfl
 | _ :: l,_,h=>by simp only [cm]at h;obtain ⟨c,r,rfl,_,h2⟩:=h;simp [cm.length h2]
theorem cm.get {mu:M}:∀ {l:List V} {cs:List Value},cm mu l cs->∀ {i:Nat} {v:V},l[i]? = some v->∃ c,cs[i]? = some c/\VR mu v c
 | [],_,_,i,v,hi=>by simp at hi
 | x :: l,_,h,i,v,hi=>by
  simp only [cm]at h
  obtain ⟨c,r,rfl,h1,h2⟩:=h
  cases i with
  | zero=>simp at hi;subst hi;exact ⟨c,rfl,h1⟩
  | succ i=>simp only [Qf]at hi ⊢;exact cm.get h2 hi
theorem cm.pO {mu:M}:∀ {l:List V} {cs:List Value},cs.length=l.length->(∀ (i:Nat) (v:V) (c:Value),l[i]? = some v->cs[i]? = some c->VR mu v c)->cm mu l cs
 | [],cs,hl,_=>by simp only [cm];exact List.length_eq_zero_iff.1 (by simpa using hl)
 | x :: l,[],hl,_=>by simp at hl
 | x :: l,c :: r,hl,h=>by
  simp only [cm]
  exact ⟨c,r,rfl,h 0 x c rfl rfl,cm.pO (by simpa using hl) λi v c' h1 h2=>h (i+1) v c' (by simpa using h1) (by simpa using h2)⟩
theorem cm.append {mu:M}:∀ {l m:List V} {cs ds:List Value},cm mu l cs->cm mu m ds->cm mu (l ++ m) (cs ++ ds)
 | [],_,_,_,h,h'=>by simp only [cm]at h;subst h;simpa using h'
 | x :: l,_,_,_,h,h'=>by
  simp only [cm]at h
  obtain ⟨c,r,rfl,h1,h2⟩:=h
  simp only [YL,cm]
  exact ⟨c,_,rfl,h1,cm.append h2 h'⟩
def V.one:V->Bool
 | .agg _ | .cH _=>false
 | _=>true
theorem VR.one {mu:M} {v:V} {c:Value} (h:VR mu v c) (ho:v.one=true):(∀ x,c ≠ .agg x)/\(∀ x,c ≠ .tuple x):=by
 cases v<;>simp only [VR]at h<;>simp [V.one]at ho<;>
  first
  | (subst h;constructor<;>intro x hx<;>cases hx)
  | (obtain ⟨rfl,_⟩:=h;constructor<;>intro x hx<;>cases hx)
  | (obtain ⟨c,rfl,_⟩:=h;constructor<;>intro x hx<;>cases hx)
  | (obtain ⟨c,d,o,sp,rfl,_⟩:=h;constructor<;>intro x hx<;>cases hx)
inductive eK where
 | dead
 | cells (l:List V)
 | bytes (len n:Nat)
 | map (es:List (V × V))
 | mark
 | loop (st jump:Nat) (e:Env) (ps:List Slot) (assign body:RC)
 | view (l:List V)
def eK.alive:eK->Prop
 | .dead=>False
 | _=>True
def ju (mu:M) (l:List V) (c:Array Value) (fr:Nat × Nat):Prop:=
 (∀ (i:Nat) (v:V),l[i]? = some v->v.one=true/\∃ cv,c[i]? = some cv/\VR mu v cv)/\∀ i,i<c.size->¬ (fr.1<=i/\i<fr.2)
def p8 {α:Type} (i:I8) (t:N8 α):α:=match t with
 | .mk a0 a1 a2 a3 a4 a5 a6 a7=>match i with
  | .i0=>a0 | .i1=>a1 | .i2=>a2 | .i3=>a3 | .i4=>a4 | .i5=>a5 | .i6=>a6 | .i7=>a7
def ae (s:Slot) (e:Env):V:=match s with
 | .mk a b c=>p8 c (p8 b (p8 a e))
structure TR (mu:M) (nt:Nat) (e:Env) (tmps:Array Value):Prop where
 size:tmps.size=nt
 le:nt<=512
 get:∀ (t:Nat) (v:Value),tmps[t]? = some v->VR mu (ae (bg t) e) v
 rest:∀ t,nt<=t->t<512->ae (bg t) e = .cH []
theorem TR.mono {mu mu':M} (h:mu.le mu') {nt:Nat} {e:Env} {tmps:Array Value} (ht:TR mu nt e tmps):TR mu' nt e tmps:=
 ⟨ht.size,ht.le,λt v hv=>VR.mono h _ _ (ht.get t v hv),ht.rest⟩
def Xn:LoopState->Nat
 | .ready=>0 | .busy=>1 | .done=>2 | .exhausted=>3
def Kz:Nat->Option Code
 | 0=>none
 | 1=>some .ret
 | n+2=>some (.exit n)
def Kd (x y:V):Prop:=(∃ k a b,x = .int k a/\y = .int k b)\/∃ l a m b,x = .str l a/\y = .str m b
def fE (ks:List V):Prop:=ks.Nodup/\∀ x ∈ ks,∀ y ∈ ks,Kd x y
def lL (ents:Array MapEntry) (clock:Nat):Prop:=(ents.toList.map (·.born)).Nodup/\∀ en ∈ ents.toList,en.born<clock
def BR (P:Program) (mu:M):eK->Obj->Prop
 | .dead,_=>True
 | .cells l,o=>∃ c e fr,o = .cells c e fr/\ju mu l c fr/\¬ (fr.1<=c.size/\c.size<fr.2)
 | .bytes len n,o=>∃ c e fr,o = .cells c e fr/\(n<256 ^ len/\∀ (i:Nat) (x:UInt8),(aB len n)[i]? = some x->c[i]? = some (Value.int .u8 (x.toNat:Int)))/\∀ i,i<c.size->¬ (fr.1<=i/\i<fr.2)
 | .map es,o=>∃ (ents:Array MapEntry) (clock:Nat) (es':List (V × V)),o = .map ents clock/\es'.Perm es/\fE (es.map (·.1))/\lL ents clock/\cm mu (es'.map (·.1)) (ents.toList.map (·.key))/\cm mu (es'.map (·.2)) (ents.toList.map (·.val))
 | .mark,o=>∃ x,o = .deferred x
 | .view l,o=>∃ c e fr,o = .cells c e fr/\∀ (i:Nat) (v:V),l[i]? = some v->v.one=true->(∃ cv,c[i]? = some cv/\VR mu v cv)/\¬ (fr.1<=i/\i<fr.2)
 | .loop st jump e ps asL bo,o=>∃ (r:Loop) (nt fid:Nat),o = .loop r/\Xn r.state=st/\r.pending=Kz jump/\TR mu nt e r.tmps/\gY nt r.params.toList=some ps/\RC.mk nt fid r.assign=asL/\RC.mk nt fid r.body=bo
theorem BR.mono {P:Program} {mu mu':M} (h:mu.le mu') {bl:eK} {o:Obj} (hb:BR P mu bl o):BR P mu' bl o:=by
 cases bl with
 | dead=>exact True.intro
 | cells l=>
  obtain ⟨c,e,fr,h1,⟨h2,h3⟩,h4⟩:=hb
  exact ⟨c,e,fr,h1,⟨λi v hi=>⟨(h2 i v hi).1,(h2 i v hi).2.imp λcv hcv=>⟨hcv.1,VR.mono h _ _ hcv.2⟩⟩,h3⟩,h4⟩
 | bytes len n=>exact hb
 | map es=>
  obtain ⟨ents,clock,es',h1,h4,h5,h6,h2,h3⟩:=hb
  exact ⟨ents,clock,es',h1,h4,h5,h6,cm.mono h _ _ h2,cm.mono h _ _ h3⟩
 | mark=>exact hb
 | view l=>
  obtain ⟨c,e,fr,h1,h2⟩:=hb
  exact ⟨c,e,fr,h1,λi v hi ho=>⟨(h2 i v hi ho).1.imp λcv hcv=>⟨hcv.1,VR.mono h _ _ hcv.2⟩,(h2 i v hi ho).2⟩⟩
 | loop st jump e ps asL bo=>
  obtain ⟨r,nt,fid,h1,h2,h3,h4,h5⟩:=hb
  exact ⟨r,nt,fid,h1,h2,h3,h4.mono h,h5⟩
inductive HT where
 | e
 | n (v:eK) (l r:HT)
noncomputable def HT.get:HT->Nat->eK:=
 HT.rec (motive:=λ_=>Nat->eK) (λ_=>.dead)
  (λv _ _ gl gr k=>Nat.rec (motive:=λ_=>eK) v (λj _=>Nat.rec (motive:=λ_=>eK) (gl (Wf j 2)) (λ_ _=>gr (Wf j 2)) (Yq j 2)) k)
noncomputable def HT.set (x:eK):HT->Nat->(HT->R)->R:=
 HT.rec (motive:=λ_=>Nat->(HT->R)->R)
  (λk c=>Nat.rec (motive:=λ_=>R) (c (.n x .e .e)) (λ_ _=>no 1) k)
  (λu l r sl sr k c=>Nat.rec (motive:=λ_=>R) (c (.n x l r))
   (λj _=>Nat.rec (motive:=λ_=>R) (sl (Wf j 2) λl'=>c (.n u l' r)) (λ_ _=>sr (Wf j 2) λr'=>c (.n u l r')) (Yq j 2)) k)
theorem HT.uE (k:Nat):HT.get .e k = .dead:=rfl
theorem HT.Gj (v:eK) (l r:HT):HT.get (.n v l r) 0=v:=rfl
theorem HT.cO (v:eK) (l r:HT) (j:Nat):HT.get (.n v l r) (j+1)=if j%2=0 then HT.get l (j/2) else HT.get r (j/2):=by
 show Nat.rec (motive:=λ_=>eK) (HT.get l (j/2)) (λ_ _=>HT.get r (j/2)) (j%2)=_
 rcases (by omega:j%2=0\/j%2=1) with h|h<;>rw [h]<;>rfl
theorem HT.K0 {x:eK}:∀ (t:HT) (k:Nat) (c:HT->R),t.set x k c=1->∃ t',c t'=1/\t'.get k=x/\∀ j,j≠k->t'.get j=t.get j:=by
 intro t
 induction t with
 | e=>
  intro k c h
  cases k with
  | zero=>
   refine ⟨_,h,rfl,λj hj=>?_⟩
   cases j with
   | zero=>exact absurd rfl hj
   | succ j=>rw [cO,uE,uE];simp [uE]
  | succ k=>exact (av h).elim
 | n u l r ihl ihr=>
  intro k c h
  cases k with
  | zero=>
   refine ⟨_,h,rfl,λj hj=>?_⟩
   cases j with
   | zero=>exact absurd rfl hj
   | succ j=>rw [cO,cO]
  | succ k=>
   have h':Nat.rec (motive:=λ_=>R) (l.set x (k/2) λl'=>c (.n u l' r)) (λ_ _=>r.set x (k/2) λr'=>c (.n u l r')) (k%2)=1:=h
   rcases (by omega:k%2=0\/k%2=1) with hk|hk
   .rw [hk]at h'
    obtain ⟨t',h1,h2,h3⟩:=ihl _ _ h'
    refine ⟨_,h1,by rw [cO,if_pos hk];exact h2,λj hj=>?_⟩
    cases j with
    | zero=>rfl
    | succ j=>
     rw [cO,cO]
     split
     .exact h3 _ (by omega)
     .rfl
   .rw [hk]at h'
    obtain ⟨t',h1,h2,h3⟩:=ihr _ _ h'
    refine ⟨_,h1,by rw [cO,if_neg (by omega)];exact h2,λj hj=>?_⟩
    cases j with
    | zero=>rfl
    | succ j=>
     rw [cO,cO]
     split
     .rfl
     .exact h3 _ (by omega)
inductive Heap where
 | mk (n bz:Nat) (t:HT)
noncomputable def Heap.n (h:Heap):Nat:=Heap.rec (λn _ _=>n) h
noncomputable def Heap.bz (h:Heap):Nat:=Heap.rec (λ_ w _=>w) h
noncomputable def Heap.t (h:Heap):HT:=Heap.rec (λ_ _ t=>t) h
noncomputable def Heap.get (h:Heap) (b:Nat):eK:=h.t.get b
def mu (rho:Nat->Option Nat) (H:Heap) (w:World):M:=⟨λb c=>b<H.n/\((H.get b).alive->rho b=some c),λc z=>∃ cs e fr,w.heap[c]? = some (.cells cs e fr)/\cs.size=z⟩
def GB (_:Nat):Prop:=False
def GQ (_:World):Prop:=True
theorem vA {w w':World} (_:GQ w) (_:∀ c,GB c->w'.heap[c]? = w.heap[c]?):GQ w':=trivial
theorem Gno {w:World}:GQ w/\∀ c,GB c->c<w.heap.size:=⟨trivial,λ_ h=>h.elim⟩
def Gl (rho:Nat->Option Nat) (w:World):Prop:=GQ w/\(∀ c,GB c->c<w.heap.size)/\∀ b c,rho b=some c->¬ GB c
structure PR (P:Program) (base:Nat) (w0:World) (rho:Nat->Option Nat) (H:Heap) (w:World):Prop where
 below:Below base w0 w
 cQ:base<=w.heap.size
 wn:H.bz<=H.n
 jP:∀ b c,rho b=some c->b<H.n/\base<=c/\c<w.heap.size/\(H.get b).alive
 inj:∀ b b' c,rho b=some c->rho b'=some c->b=b'
 db:∀ b c,rho b=some c->∃ o,w.heap[c]? = some o/\BR P (mu rho H w) (H.get b) o
 out:∀ b,H.n<=b->H.get b = .dead
 gl:Gl rho w
structure Ext (rho:Nat->Option Nat) (H:Heap) (w:World) (rho':Nat->Option Nat) (H':Heap) (w':World):Prop where
 n:H.n<=H'.n
 bz:H'.bz<=H.bz
 size:w.heap.size<=w'.heap.size
 cG:∀ b,b<H.n->b<H'.bz->H'.get b=H.get b/\rho' b=rho b
 old:∀ b c,b<H.n->rho' b=some c->rho b=some c
 live:∀ b c,rho b=some c->(H'.get b).alive->rho' b=some c
 qQ:∀ b,b<H.n->(H'.get b).alive->(H.get b).alive
 new:∀ b c,H.n<=b->rho' b=some c->w.heap.size<=c\/∃ b0,rho b0=some c/\H'.bz<=b0
 fr:∀ c,c<w.heap.size->(∀ b,rho b=some c->b<H'.bz)->w'.heap[c]? = w.heap[c]?
 marks:∀ b,H.get b = .mark->H'.get b = .mark/\rho' b=rho b/\∀ c,rho b=some c->w'.heap[c]? = w.heap[c]?
 rows:∀ (c:Nat) (cs:Array Value) (e:TypeId) (fr:Nat × Nat),w.heap[c]? = some (.cells cs e fr)->∃ cs' e' fr',w'.heap[c]? = some (.cells cs' e' fr')/\cs'.size=cs.size
 loops:∀ (c:Nat) (r:Loop),w.heap[c]? = some (.loop r)->∃ r',w'.heap[c]? = some (.loop r')
theorem Ext.refl {rho:Nat->Option Nat} {H:Heap} {w:World} (hd:∀ b c,rho b=some c->b<H.n):Ext rho H w rho H w:=
 ⟨YB _,YB _,YB _,λ_ _ _=>⟨rfl,rfl⟩,λ_ _ _ h=>h,λ_ _ h _=>h,λ_ _ h=>h,λb c hb h=>absurd (hd b c h) (by omega),λ_ _ _=>rfl,λb h=>⟨h,rfl,λ_ _=>rfl⟩,λc cs e fr h=>⟨cs,e,fr,h,rfl⟩,λc r h=>⟨r,h⟩⟩
theorem Gl.step {rho rho':Nat->Option Nat} {H H':Heap} {w w':World} (h:Gl rho w) (e:Ext rho H w rho' H' w'):Gl rho' w':=by
 obtain ⟨h1,h2,h3⟩:=h
 refine ⟨vA h1 λc hc=>e.fr c (h2 c hc) λb hb=>absurd hc (h3 b c hb),λc hc=>YD (h2 c hc) e.size,λb c hb hc=>?_⟩
 by_cases hbn:b<H.n
 .exact h3 b c (e.old b c hbn hb) hc
 .rcases e.new b c (by omega) hb with h|⟨b0,h4,_⟩
  .have:=h2 c hc;omega
  .exact h3 b0 c h4 hc
theorem Ext.mu {rho rho':Nat->Option Nat} {H H':Heap} {w w':World} (h:Ext rho H w rho' H' w'):(mu rho H w).le (mu rho' H' w'):=
 ⟨λb c ⟨h1,h2⟩=>⟨YD h1 h.n,λha=>h.live _ _ (h2 (h.qQ b h1 ha)) ha⟩,
  λc z ⟨cs,e,fr,h1,h2⟩=>let ⟨cs',e',fr',h3,h4⟩:=h.rows c cs e fr h1; ⟨cs',e',fr',h3,h4.trans h2⟩⟩
theorem Ext.trans {r r1 r2:Nat->Option Nat} {H H1 H2:Heap} {w w1 w2:World} (hd:∀ b c,r b=some c->b<H.n) (h:Ext r H w r1 H1 w1) (k:Ext r1 H1 w1 r2 H2 w2):Ext r H w r2 H2 w2 where
 n:=Yr h.n k.n
 bz:=Yr k.bz h.bz
 size:=Yr h.size k.size
 cG b hb hw:=by
  obtain ⟨a1,a2⟩:=h.cG b hb (YD hw k.bz)
  obtain ⟨b1,b2⟩:=k.cG b (YD hb h.n) hw
  exact ⟨b1.trans a1,b2.trans a2⟩
 old b c hb hr:=h.old b c hb (k.old b c (YD hb h.n) hr)
 live b c hr ha:=by
  have hb:b<H1.n:=YD (hd b c hr) h.n
  exact k.live b c (h.live b c hr (k.qQ b hb ha)) ha
 qQ b hb ha:=h.qQ b hb (k.qQ b (YD hb h.n) ha)
 new b c hb hr:=by
  by_cases hb1:b<H1.n
  .rcases h.new b c hb (k.old b c hb1 hr) with h'|⟨b0,h1,h2⟩
   .exact YG h'
   .exact YE ⟨b0,h1,Yr k.bz h2⟩
  .rcases k.new b c (by omega) hr with h'|⟨b0,h1,h2⟩
   .exact YG (Yr h.size h')
   .by_cases hb0:b0<H.n
    .exact YE ⟨b0,h.old b0 c hb0 h1,h2⟩
    .rcases h.new b0 c (by omega) h1 with h'|⟨b1,h3,h4⟩
     .exact YG h'
     .exact YE ⟨b1,h3,Yr k.bz h4⟩
 fr c hc hb:=by
  refine (k.fr c (YD hc h.size) λb hr=>?_).trans (h.fr c hc λb hr=>YD (hb b hr) k.bz)
  by_cases hb0:b<H.n
  .exact hb b (h.old b c hb0 hr)
  .rcases h.new b c (by omega) hr with h'|⟨b1,h3,h4⟩
   .omega
   .have:=hb b1 h3
    have:=k.bz
    omega
 rows c cs e fr hc:=by
  obtain ⟨cs',e',fr',h1,h2⟩:=h.rows c cs e fr hc
  obtain ⟨cs2,e2,fr2,h3,h4⟩:=k.rows c cs' e' fr' h1
  exact ⟨cs2,e2,fr2,h3,h4.trans h2⟩
 loops c r hc:=by
  obtain ⟨r',h1⟩:=h.loops c r hc
  exact k.loops c r' h1
 marks b hb:=by
  obtain ⟨a1,a2,a3⟩:=h.marks b hb
  obtain ⟨b1,b2,b3⟩:=k.marks b a1
  exact ⟨b1,b2.trans a2,λc hc=>(b3 c (a2.trans hc)).trans (a3 c hc)⟩
section
variable {P:Program} {base:Nat} {w0 w w':World} {rho:Nat->Option Nat} {H H':Heap}
theorem PR.lt (h:PR P base w0 rho H w):∀ b c,rho b=some c->b<H.n:=λb c hr=>(h.jP b c hr).1
theorem PR.drawn (h:PR P base w0 rho H w) (n:Nat):PR P base w0 rho H {w with drawn:=n } where
 below:=⟨h.below.os,h.below.tape,h.below.output,h.below.size,h.below.block⟩
 cQ:=h.cQ
 wn:=h.wn
 jP:=h.jP
 inj:=h.inj
 db:=h.db
 out:=h.out
 gl:=⟨vA h.gl.1 λ_ _=>rfl,h.gl.2⟩
theorem oK (h:Below base w0 w) (hos:w'.os=w.os) (htape:w'.tape=w.tape) (hout:w'.output=w.output) (hsz:w.heap.size<=w'.heap.size)
 (hb:∀ k,k<base->w'.heap[k]? = w.heap[k]?):Below base w0 w':=
 ⟨hos.trans h.os,htape.trans h.tape,hout.trans h.output,Yr h.size hsz,λk hk=>(hb k hk).trans (h.block k hk)⟩
theorem PR.KJ (h:PR P base w0 rho H w) (hn:H'.n=H.n) (ht:∀ b,H'.get b=H.get b) (hw:H'.bz<=H'.n):PR P base w0 rho H' w:=by
 have hm:(mu rho H w).le (mu rho H' w):=⟨λb c hm=>⟨by rw [hn];exact hm.1,by rw [ht];exact hm.2⟩,λ_ _ h=>h⟩
 exact ⟨h.below,h.cQ,hw,λb c hr=>by rw [hn,ht];exact h.jP b c hr,h.inj,λb c hr=>by
  obtain ⟨o,h1,h2⟩:=h.db b c hr
  rw [ht]
  exact ⟨o,h1,h2.mono hm⟩,λb hb=>by rw [ht];exact h.out b (by omega),h.gl⟩
structure IY (w w':World):Prop where
 os:w'.os=w.os
 tape:w'.tape=w.tape
 output:w'.output=w.output
theorem PR.alloc (h:PR P base w0 rho H w) {bl:eK} {o:Obj} (hn:H'.n=H.n+1) (hw:H'.bz=H.bz) (hg:H'.get H.n=bl) (ho:∀ j,j≠H.n->H'.get j=H.get j)
 (ha:bl.alive) (hs:IY w w') (hsz:w'.heap.size=w.heap.size+1) (hnew:w'.heap[w.heap.size]? = some o) (hold:∀ j,j<w.heap.size->w'.heap[j]? = w.heap[j]?)
 (hb:BR P (mu rho H w) bl o):
 PR P base w0 (λb=>if b=H.n then some w.heap.size else rho b) H' w'/\Ext rho H w (λb=>if b=H.n then some w.heap.size else rho b) H' w':=by
 have hlt:=h.lt
 have hE:Ext rho H w (λb=>if b=H.n then some w.heap.size else rho b) H' w':=by
  refine ⟨by omega,by omega,by omega,λb hb _=>⟨ho b (by omega),by simp [QW hb]⟩,λb c hb hr=>?_,λb c hr _=>?_,λb hb hal=>?_,λb c hb hr=>?_,λc hc _=>hold c hc,λb hm=>?_,λc cs e fr hc=>⟨cs,e,fr,(hold c (YN.1 hc).1).trans hc,rfl⟩,λc r hc=>⟨r,(hold c (YN.1 hc).1).trans hc⟩⟩
  .simpa [QW hb] using hr
  .have:=hlt b c hr;simp [QW this,hr]
  .rwa [ho b (by omega)]at hal
  .by_cases hb':b=H.n
   .simp [hb']at hr;omega
   .simp [hb']at hr;have:=hlt b c hr;omega
  .have hb':b≠H.n:=λe=>by subst e;rw [h.out H.n (YB _)]at hm;cases hm
   exact ⟨(ho b hb').trans hm,by simp [hb'],λc hc=>hold c (h.jP b c hc).2.2.1⟩
 refine ⟨⟨oK h.below hs.os hs.tape hs.output (by omega) λk hk=>hold k (by have:=h.cQ;omega),by have:=h.cQ;omega,by have:=h.wn;omega,λb c hr=>?_,λb b' c hr hr'=>?_,λb c hr=>?_,λb hb'=>?_,h.gl.step hE⟩,hE⟩
 .by_cases hb':b=H.n
  .subst hb'
   simp at hr
   subst hr
   exact ⟨by omega,h.cQ,by omega,by rw [hg];exact ha⟩
  .simp [hb']at hr
   obtain ⟨h1,h2,h3,h4⟩:=h.jP b c hr
   exact ⟨by omega,h2,by omega,by rw [ho b hb'];exact h4⟩
 .by_cases h1:b=H.n<;>by_cases h2:b'=H.n<;>simp [h1,h2]at hr hr'
  .omega
  .have:=(h.jP b' c hr').2.2.1;omega
  .have:=(h.jP b c hr).2.2.1;omega
  .exact h.inj b b' c hr hr'
 .by_cases hb':b=H.n
  .subst hb'
   simp at hr
   subst hr
   exact ⟨o,hnew,by rw [hg];exact hb.mono hE.mu⟩
  .simp [hb']at hr
   obtain ⟨o',h1,h2⟩:=h.db b c hr
   refine ⟨o',(hold c (h.jP b c hr).2.2.1).trans h1,?_⟩
   rw [ho b hb']
   exact h2.mono hE.mu
 .rw [ho b (by omega)]
  exact h.out b (by omega)
theorem PR.write (h:PR P base w0 rho H w) {b c:Nat} {bl:eK} {o:Obj} (hr:rho b=some c) (hnm:H.get b ≠ .mark) (hn:H'.n=H.n) (hw:H'.bz<=H.bz) (hwb:H'.bz<=b) (hg:H'.get b=bl)
 (ho:∀ j,j≠b->H'.get j=H.get j) (ha:bl.alive) (hs:IY w w') (hsz:w'.heap.size=w.heap.size) (hnew:w'.heap[c]? = some o) (hold:∀ j,j≠c->w'.heap[j]? = w.heap[j]?)
 (hb:BR P (mu rho H w) bl o) (hz:∀ cs e fr,w.heap[c]? = some (.cells cs e fr)->∃ cs' e' fr',o = .cells cs' e' fr'/\cs'.size=cs.size) (hlp:∀ r,w.heap[c]? = some (.loop r)->∃ r',o = .loop r'):PR P base w0 rho H' w'/\Ext rho H w rho H' w':=by
 have hlt:=h.lt
 have hd:=h.jP b c hr
 have hE:Ext rho H w rho H' w':=by
  refine ⟨by omega,hw,by omega,λj hj hjw=>⟨ho j (by omega),rfl⟩,λ_ _ _ h=>h,λ_ _ h _=>h,λj hj hal=>?_,λj c' hj hr'=>?_,λj hj hjw=>hold j λe=>?_,λj hm=>⟨(ho j λe=>by subst e;exact hnm hm).trans hm,rfl,λc1 hc1=>hold c1 λe=>hnm (by subst e;rw [<- h.inj j b c1 hc1 hr];exact hm)⟩,λj cs e fr hj=>?_,λj r hj=>?_⟩
  .by_cases hjb:j=b
   .subst hjb;exact hd.2.2.2
   .rwa [ho j hjb]at hal
  .have:=hlt j c' hr';omega
  .subst e;have:=hjw b hr;omega
  .by_cases hjc:j=c
   .subst hjc
    obtain ⟨cs',e',fr',h1,h2⟩:=hz cs e fr hj
    exact ⟨cs',e',fr',by rw [hnew,h1],h2⟩
   .exact ⟨cs,e,fr,(hold j hjc).trans hj,rfl⟩
  .by_cases hjc:j=c
   .subst hjc
    obtain ⟨r',h1⟩:=hlp r hj
    exact ⟨r',by rw [hnew,h1]⟩
   .exact ⟨r,(hold j hjc).trans hj⟩
 refine ⟨⟨oK h.below hs.os hs.tape hs.output (by omega) λk hk=>hold k (by omega),by have:=h.cQ;omega,by have:=h.wn;omega,λj c' hr'=>?_,h.inj,λj c' hr'=>?_,λj hj=>?_,h.gl.step hE⟩,hE⟩
 .obtain ⟨h1,h2,h3,h4⟩:=h.jP j c' hr'
  refine ⟨by omega,h2,by omega,?_⟩
  by_cases hjb:j=b
  .subst hjb;rw [hg];exact ha
  .rw [ho j hjb];exact h4
 .by_cases hjb:j=b
  .subst hjb
   rw [hr]at hr'
   cases hr'
   exact ⟨o,hnew,by rw [hg];exact hb.mono hE.mu⟩
  .obtain ⟨o',h1,h2⟩:=h.db j c' hr'
   refine ⟨o',(hold c' λe=>hjb (h.inj j b c' hr' (e ▸ hr))).trans h1,?_⟩
   rw [ho j hjb]
   exact h2.mono hE.mu
 .rw [ho j (by omega)]
  exact h.out j (by omega)
theorem PR.move (h:PR P base w0 rho H w) {b c c':Nat} {bl:eK} {o:Obj} (hr:rho b=some c) (hnm:H.get b ≠ .mark) (hn:H'.n=H.n+1) (hw:H'.bz<=H.bz) (hwb:H'.bz<=b) (hd:H'.get b = .dead) (hg:H'.get H.n=bl)
 (ho:∀ j,j≠b->j≠H.n->H'.get j=H.get j) (ha:bl.alive) (hs:IY w w') (hsz:w.heap.size<=w'.heap.size) (hc':c'=c\/w.heap.size<=c') (hc'':c'<w'.heap.size) (hnew:w'.heap[c']? = some o)
 (hold:∀ j,j<w.heap.size->j≠c->w'.heap[j]? = w.heap[j]?)
 (hb:BR P (mu rho H w) bl o) (hz:∀ cs e fr,w.heap[c]? = some (.cells cs e fr)->∃ cs' e' fr',w'.heap[c]? = some (.cells cs' e' fr')/\cs'.size=cs.size) (hlp:∀ r,w.heap[c]? = some (.loop r)->False):
 PR P base w0 (λj=>if j=H.n then some c' else if j=b then none else rho j) H' w'/\Ext rho H w (λj=>if j=H.n then some c' else if j=b then none else rho j) H' w':=by
 have hlt:=h.lt
 have hdm:=h.jP b c hr
 have hbn:b≠H.n:=by omega
 have hE:Ext rho H w (λj=>if j=H.n then some c' else if j=b then none else rho j) H' w':=by
  refine ⟨by omega,hw,hsz,λj hj hjw=>⟨ho j (by omega) (by omega),(λ(hjb:j≠b)=>by simp [QW hj,hjb]) (by omega)⟩,λj c1 hj h1=>?_,λj c1 h1 hal=>?_,λj hj hal=>?_,λj c1 hj h1=>?_,λj hj hjw=>hold j hj λe=>?_,λj hm=>?_,λj cs e fr hj=>?_,λj r hj=>⟨r,(hold j (YN.1 hj).1 λe=>hlp r (e ▸ hj)).trans hj⟩⟩
  .simp only [QW hj,if_false]at h1
   split at h1
   .cases h1
   .exact h1
  .have h2:=hlt j c1 h1
   by_cases hjb:j=b
   .subst hjb;rw [hd]at hal;exact hal.elim
   .simp [QW h2,hjb,h1]
  .by_cases hjb:j=b
   .subst hjb;exact hdm.2.2.2
   .rwa [ho j hjb (by omega)]at hal
  .by_cases hjn:j=H.n
   .simp [hjn]at h1
    subst h1
    rcases hc' with e|e
    .exact YE ⟨b,e ▸ hr,hwb⟩
    .exact YG e
   .by_cases hjb:j=b
    .omega
    .simp [hjn,hjb]at h1
     have:=hlt j c1 h1
     omega
  .subst e;have:=hjw b hr;omega
  .have h1:j≠H.n:=λe=>by subst e;rw [h.out H.n (YB _)]at hm;cases hm
   have h2:j≠b:=λe=>by subst e;exact hnm hm
   exact ⟨(ho j h2 h1).trans hm,by simp [h1,h2],λc1 hc1=>hold c1 (h.jP j c1 hc1).2.2.1 λe=>h2 (h.inj j b c1 hc1 (e ▸ hr))⟩
  .by_cases hjc:j=c
   .subst hjc;exact hz cs e fr hj
   .exact ⟨cs,e,fr,(hold j (YN.1 hj).1 hjc).trans hj,rfl⟩
 refine ⟨⟨oK h.below hs.os hs.tape hs.output hsz λk hk=>hold k (by have:=h.cQ;omega) (by omega),by have:=h.cQ;omega,by have:=h.wn;omega,λj c1 hr'=>?_,λj j' c1 hr1 hr2=>?_,λj c1 hr'=>?_,λj hj=>?_,h.gl.step hE⟩,hE⟩
 .by_cases hjn:j=H.n
  .simp [hjn]at hr'
   subst hr'
   subst hjn
   refine ⟨by omega,?_,hc'',by rw [hg];exact ha⟩
   rcases hc' with e|e
   .omega
   .have:=h.cQ;omega
  .by_cases hjb:j=b
   .simp [hjb,hbn]at hr'
   .simp [hjn,hjb]at hr'
    obtain ⟨h1,h2,h3,h4⟩:=h.jP j c1 hr'
    exact ⟨by omega,h2,by omega,by rw [ho j hjb hjn];exact h4⟩
 .have key:∀ j,j≠H.n->j≠b->rho j=some c'->False:=by
   intro j _ hj2 hj3
   rcases hc' with e|e
   .subst e;exact hj2 (h.inj j b c' hj3 hr)
   .have:=(h.jP j c' hj3).2.2.1;omega
  by_cases h1:j=H.n<;>by_cases h2:j'=H.n
  .omega
  .by_cases h3:j'=b
   .simp [h3,hbn]at hr2
   .simp [h2,h3]at hr2
    simp [h1]at hr1
    subst hr1
    exact (key j' h2 h3 hr2).elim
  .by_cases h3:j=b
   .simp [h3,hbn]at hr1
   .simp [h1,h3]at hr1
    simp [h2]at hr2
    subst hr2
    exact (key j h1 h3 hr1).elim
  .by_cases h3:j=b
   .simp [h3,hbn]at hr1
   .by_cases h4:j'=b
    .simp [h4,hbn]at hr2
    .simp [h1,h3]at hr1
     simp [h2,h4]at hr2
     exact h.inj j j' c1 hr1 hr2
 .by_cases hjn:j=H.n
  .simp [hjn]at hr'
   subst hr'
   subst hjn
   exact ⟨o,hnew,by rw [hg];exact hb.mono hE.mu⟩
  .by_cases hjb:j=b
   .simp [hjb,hbn]at hr'
   .simp [hjn,hjb]at hr'
    obtain ⟨o',h1,h2⟩:=h.db j c1 hr'
    refine ⟨o',(hold c1 (h.jP j c1 hr').2.2.1 λe=>hjb (h.inj j b c1 hr' (e ▸ hr))).trans h1,?_⟩
    rw [ho j hjb hjn]
    exact h2.mono hE.mu
 .rw [ho j (by omega) (by omega)]
  exact h.out j (by omega)
end
end Go.Ev
end
section
set_option maxRecDepth 100000
namespace Go.Ev
noncomputable def g80 {α:Type} (t:N8 α) (k:α->R):R:=N8.rec (motive:=λ_=>R) (λa0 a1 a2 a3 a4 a5 a6 a7=>k a0) t
noncomputable def u80 {α:Type} (t:N8 α) (f:α->(α->R)->R) (k:N8 α->R):R:=N8.rec (motive:=λ_=>R) (λa0 a1 a2 a3 a4 a5 a6 a7=>f a0 λx=>k (N8.mk x a1 a2 a3 a4 a5 a6 a7)) t
noncomputable def g81 {α:Type} (t:N8 α) (k:α->R):R:=N8.rec (motive:=λ_=>R) (λa0 a1 a2 a3 a4 a5 a6 a7=>k a1) t
noncomputable def u81 {α:Type} (t:N8 α) (f:α->(α->R)->R) (k:N8 α->R):R:=N8.rec (motive:=λ_=>R) (λa0 a1 a2 a3 a4 a5 a6 a7=>f a1 λx=>k (N8.mk a0 x a2 a3 a4 a5 a6 a7)) t
noncomputable def g82 {α:Type} (t:N8 α) (k:α->R):R:=N8.rec (motive:=λ_=>R) (λa0 a1 a2 a3 a4 a5 a6 a7=>k a2) t
noncomputable def u82 {α:Type} (t:N8 α) (f:α->(α->R)->R) (k:N8 α->R):R:=N8.rec (motive:=λ_=>R) (λa0 a1 a2 a3 a4 a5 a6 a7=>f a2 λx=>k (N8.mk a0 a1 x a3 a4 a5 a6 a7)) t
noncomputable def g83 {α:Type} (t:N8 α) (k:α->R):R:=N8.rec (motive:=λ_=>R) (λa0 a1 a2 a3 a4 a5 a6 a7=>k a3) t
noncomputable def u83 {α:Type} (t:N8 α) (f:α->(α->R)->R) (k:N8 α->R):R:=N8.rec (motive:=λ_=>R) (λa0 a1 a2 a3 a4 a5 a6 a7=>f a3 λx=>k (N8.mk a0 a1 a2 x a4 a5 a6 a7)) t
noncomputable def g84 {α:Type} (t:N8 α) (k:α->R):R:=N8.rec (motive:=λ_=>R) (λa0 a1 a2 a3 a4 a5 a6 a7=>k a4) t
noncomputable def u84 {α:Type} (t:N8 α) (f:α->(α->R)->R) (k:N8 α->R):R:=N8.rec (motive:=λ_=>R) (λa0 a1 a2 a3 a4 a5 a6 a7=>f a4 λx=>k (N8.mk a0 a1 a2 a3 x a5 a6 a7)) t
noncomputable def g85 {α:Type} (t:N8 α) (k:α->R):R:=N8.rec (motive:=λ_=>R) (λa0 a1 a2 a3 a4 a5 a6 a7=>k a5) t
noncomputable def u85 {α:Type} (t:N8 α) (f:α->(α->R)->R) (k:N8 α->R):R:=N8.rec (motive:=λ_=>R) (λa0 a1 a2 a3 a4 a5 a6 a7=>f a5 λx=>k (N8.mk a0 a1 a2 a3 a4 x a6 a7)) t
noncomputable def g86 {α:Type} (t:N8 α) (k:α->R):R:=N8.rec (motive:=λ_=>R) (λa0 a1 a2 a3 a4 a5 a6 a7=>k a6) t
noncomputable def u86 {α:Type} (t:N8 α) (f:α->(α->R)->R) (k:N8 α->R):R:=N8.rec (motive:=λ_=>R) (λa0 a1 a2 a3 a4 a5 a6 a7=>f a6 λx=>k (N8.mk a0 a1 a2 a3 a4 a5 x a7)) t
noncomputable def g87 {α:Type} (t:N8 α) (k:α->R):R:=N8.rec (motive:=λ_=>R) (λa0 a1 a2 a3 a4 a5 a6 a7=>k a7) t
noncomputable def u87 {α:Type} (t:N8 α) (f:α->(α->R)->R) (k:N8 α->R):R:=N8.rec (motive:=λ_=>R) (λa0 a1 a2 a3 a4 a5 a6 a7=>f a7 λx=>k (N8.mk a0 a1 a2 a3 a4 a5 a6 x)) t
noncomputable def g8 {α:Type} (i:I8):N8 α->(α->R)->R:=I8.rec (motive:=λ_=>N8 α->(α->R)->R) g80 g81 g82 g83 g84 g85 g86 g87 i
noncomputable def u8 {α:Type} (i:I8):N8 α->(α->(α->R)->R)->(N8 α->R)->R:=I8.rec (motive:=λ_=>N8 α->(α->(α->R)->R)->(N8 α->R)->R) u80 u81 u82 u83 u84 u85 u86 u87 i
noncomputable def ik (s:Slot) (e:Env) (k:V->R):R:=Slot.rec (motive:=λ_=>R) (λa b c=>g8 a e λt=>g8 b t λu=>g8 c u k) s
noncomputable def KZ (s:Slot) (v:V) (e:Env) (k:Env->R):R:=Slot.rec (motive:=λ_=>R) (λa b c=>u8 a e (λt k1=>u8 b t (λu k2=>u8 c u (λ_ k3=>k3 v) k2) k1) k) s
noncomputable def aG (a:Arg) (e:Env) (k:V->R):R:=Arg.rec (motive:=λ_=>R) (λs=>ik s e k) (λv=>k v) a
noncomputable def px (l:List Arg) (e:Env):(List V->R)->R:=List.rec (motive:=λ_=>(List V->R)->R) (λk=>k []) (λa _ ih k=>aG a e λv=>ih λr=>k (v :: r)) l
noncomputable def au (n:Nat) (k:Nat->R):R:=Nat.rec (motive:=λ_=>R) (k Nat.zero) (λm _=>k (WN m)) n
noncomputable def aF (c:Bool) (t f:R):R:=Bool.rec (motive:=λ_=>R) f t c
noncomputable def cC (id:Nat) (x:V) (k:Nat->Nat->R):R:=V.rec (motive_1:=λ_=>R) (motive_2:=λ_=>R) (k) (λ_=>no 0) (λ_ _=>no 0) (λ_ _=>no 0) (no 0) (λ_ _ _ _ _=>no 0) (no 0) (λ_=>no 0) (no 0) (λ_ _ _=>no 0) (λ_=>no 0) (no 0) (λ_ _ _=>no 0) (no 0) (λ_ _=>no 0) (λ_ _=>no 0) (0:R) (λ_ _ _ _=>(0:R)) x
noncomputable def eV (id:Nat) (x:V) (k:Bool->R):R:=V.rec (motive_1:=λ_=>R) (motive_2:=λ_=>R) (λ_ _=>no 0) (k) (λ_ _=>no 0) (λ_ _=>no 0) (no 0) (λ_ _ _ _ _=>no 0) (no 0) (λ_=>no 0) (no 0) (λ_ _ _=>no 0) (λ_=>no 0) (no 0) (λ_ _ _=>no 0) (no 0) (λ_ _=>no 0) (λ_ _=>no 0) (0:R) (λ_ _ _ _=>(0:R)) x
noncomputable def ej (id:Nat) (x:V) (k:Nat->Nat->R):R:=V.rec (motive_1:=λ_=>R) (motive_2:=λ_=>R) (λ_ _=>no 0) (λ_=>no 0) (k) (λ_ _=>no 0) (no 0) (λ_ _ _ _ _=>no 0) (no 0) (λ_=>no 0) (no 0) (λ_ _ _=>no 0) (λ_=>no 0) (no 0) (λ_ _ _=>no 0) (no 0) (λ_ _=>no 0) (λ_ _=>no 0) (0:R) (λ_ _ _ _=>(0:R)) x
noncomputable def dQ (id:Nat) (x:V) (k:Nat->Nat->R):R:=V.rec (motive_1:=λ_=>R) (motive_2:=λ_=>R) (λ_ _=>no 0) (λ_=>no 0) (λ_ _=>no 0) (k) (no 0) (λ_ _ _ _ _=>no 0) (no 0) (λ_=>no 0) (no 0) (λ_ _ _=>no 0) (λ_=>no 0) (no 0) (λ_ _ _=>no 0) (no 0) (λ_ _=>no 0) (λ_ _=>no 0) (0:R) (λ_ _ _ _=>(0:R)) x
noncomputable def lY (id:Nat) (x:V) (k:Nat->Nat->Nat->Nat->Nat->R):R:=V.rec (motive_1:=λ_=>R) (motive_2:=λ_=>R) (λ_ _=>no 0) (λ_=>no 0) (λ_ _=>no 0) (λ_ _=>no 0) (no 0) (k) (no 0) (λ_=>no 0) (no 0) (λ_ _ _=>no 0) (λ_=>no 0) (no 0) (λ_ _ _=>no 0) (no 0) (λ_ _=>no 0) (λ_ _=>no 0) (0:R) (λ_ _ _ _=>(0:R)) x
noncomputable def bG (id:Nat) (x:V) (k:Nat->Nat->Nat->Nat->Nat->R) (z:R):R:=V.rec (motive_1:=λ_=>R) (motive_2:=λ_=>R) (λ_ _=>no 0) (λ_=>no 0) (λ_ _=>no 0) (λ_ _=>no 0) (no 0) (k) (z) (λ_=>no 0) (no 0) (λ_ _ _=>no 0) (λ_=>no 0) (no 0) (λ_ _ _=>no 0) (no 0) (λ_ _=>no 0) (λ_ _=>no 0) (0:R) (λ_ _ _ _=>(0:R)) x
noncomputable def Iz (id:Nat) (x:V) (k:Nat->R):R:=V.rec (motive_1:=λ_=>R) (motive_2:=λ_=>R) (λ_ _=>no 0) (λ_=>no 0) (λ_ _=>no 0) (λ_ _=>no 0) (no 0) (λ_ _ _ _ _=>no 0) (no 0) (k) (no 0) (λ_ _ _=>no 0) (λ_=>no 0) (no 0) (λ_ _ _=>no 0) (no 0) (λ_ _=>no 0) (λ_ _=>no 0) (0:R) (λ_ _ _ _=>(0:R)) x
noncomputable def qS (id:Nat) (x:V) (k:Nat->R) (z:R):R:=V.rec (motive_1:=λ_=>R) (motive_2:=λ_=>R) (λ_ _=>no 0) (λ_=>no 0) (λ_ _=>no 0) (λ_ _=>no 0) (no 0) (λ_ _ _ _ _=>no 0) (no 0) (k) (z) (λ_ _ _=>no 0) (λ_=>no 0) (no 0) (λ_ _ _=>no 0) (no 0) (λ_ _=>no 0) (λ_ _=>no 0) (0:R) (λ_ _ _ _=>(0:R)) x
noncomputable def yQ (id:Nat) (x:V) (k:Nat->List V->R):R:=V.rec (motive_1:=λ_=>R) (motive_2:=λ_=>R) (λ_ _=>no 0) (λ_=>no 0) (λ_ _=>no 0) (λ_ _=>no 0) (no 0) (λ_ _ _ _ _=>no 0) (no 0) (λ_=>no 0) (no 0) (λf l _=>k f l) (λ_=>no 0) (no 0) (λ_ _ _=>no 0) (no 0) (λ_ _=>no 0) (λ_ _=>no 0) (0:R) (λ_ _ _ _=>(0:R)) x
noncomputable def iS (id:Nat) (x:V) (k:List V->R):R:=V.rec (motive_1:=λ_=>R) (motive_2:=λ_=>R) (λ_ _=>no 0) (λ_=>no 0) (λ_ _=>no 0) (λ_ _=>no 0) (no 0) (λ_ _ _ _ _=>no 0) (no 0) (λ_=>no 0) (no 0) (λ_ _ _=>no 0) (λ_=>no 0) (no 0) (λ_ _ _=>no 0) (no 0) (λl _=>k l) (λ_ _=>no 0) (0:R) (λ_ _ _ _=>(0:R)) x
noncomputable def vIf (id t:Nat) (x:V) (k:V->R):R:=V.rec (motive_1:=λ_=>R) (motive_2:=λ_=>R) (λ_ _=>no 0) (λ_=>no 0) (λ_ _=>no 0) (λ_ _=>no 0) (no 0) (λ_ _ _ _ _=>no 0) (no 0) (λ_=>no 0) (no 0) (λ_ _ _=>no 0) (λ_=>no 0) (no 0) (λt' v _=>aF (YM t' t) (k v) (no 0)) (no 0) (λ_ _=>no 0) (λ_ _=>no 0) (0:R) (λ_ _ _ _=>(0:R)) x
noncomputable def zO (id:Nat) (x:V) (k:List V->R):R:=V.rec (motive_1:=λ_=>R) (motive_2:=λ_=>R) (λ_ _=>no 0) (λ_=>no 0) (λ_ _=>no 0) (λ_ _=>no 0) (no 0) (λ_ _ _ _ _=>no 0) (no 0) (λ_=>no 0) (no 0) (λ_ _ _=>no 0) (λ_=>no 0) (no 0) (λ_ _ _=>no 0) (no 0) (λ_ _=>no 0) (λl _=>k l) (0:R) (λ_ _ _ _=>(0:R)) x
noncomputable def nth (id:Nat) (l:List V):Nat->(V->R)->R:=List.rec (motive:=λ_=>Nat->(V->R)->R) (λ_ _=>no 0) (λv _ ih i k=>Nat.rec (motive:=λ_=>R) (k v) (λj _=>ih j k) i) l
noncomputable def takeN (id:Nat) (l:List V):Nat->(List V->R)->R:=List.rec (motive:=λ_=>Nat->(List V->R)->R) (λi k=>Nat.rec (motive:=λ_=>R) (k []) (λ_ _=>no 0) i) (λv _ ih i k=>Nat.rec (motive:=λ_=>R) (k []) (λj _=>ih j λr=>k (v :: r)) i) l
noncomputable def fI (id:Nat) (l:List V):Nat->(List V->R)->R:=List.rec (motive:=λ_=>Nat->(List V->R)->R) (λi k=>Nat.rec (motive:=λ_=>R) (k []) (λ_ _=>no 0) i) (λv l ih i k=>Nat.rec (motive:=λ_=>R) (k (v :: l)) (λj _=>ih j k) i) l
noncomputable def jO (l m:List V):(List V->R)->R:=List.rec (motive:=λ_=>(List V->R)->R) (λk=>k m) (λv _ ih k=>ih λr=>k (v :: r)) l
noncomputable def over (id:Nat) (m:List V):List V->(List V->R)->R:=List.rec (motive:=λ_=>List V->(List V->R)->R) (λl k=>k l) (λx _ ih l k=>List.rec (motive:=λ_=>R) (no 0) (λ_ r _=>ih r λq=>k (x :: q)) l) m
noncomputable def setAt (id:Nat) (m l:List V):Nat->(List V->R)->R:=List.rec (motive:=λ_=>Nat->(List V->R)->R) (λi k=>Nat.rec (motive:=λ_=>R) (over id m [] k) (λ_ _=>no 0) i) (λv l ih i k=>Nat.rec (motive:=λ_=>R) (over id m (v :: l) k) (λj _=>ih j λr=>k (v :: r)) i) l
noncomputable def fD (l:List V):Nat:=List.rec (motive:=λ_=>Nat) 0 (λ_ _ ih=>WN ih) l
noncomputable def W7 (m:List V) (n:Nat):(List V->R)->R:=Nat.rec (motive:=λ_=>(List V->R)->R) (λk=>k []) (λ_ ih k=>ih λr=>jO m r k) n
noncomputable def dZ (id:Nat) (x:V) (k:R):R:=V.rec (motive_1:=λ_=>R) (motive_2:=λ_=>R) (λ_ _=>k) (λ_=>k) (λ_ _=>k) (λ_ _=>k) (k) (λ_ _ _ _ _=>k) (k) (λ_=>k) (k) (λ_ _ _=>k) (λ_=>k) (k) (λ_ _ _=>k) (k) (λ_ _=>no 0) (λ_ _=>no 0) (0:R) (λ_ _ _ _=>(0:R)) x
noncomputable def bu (id:Nat) (l:List V) (k:R):R:=List.rec (motive:=λ_=>R) k (λv _ ih=>dZ id v ih) l
noncomputable def iB (id:Nat) (l:List V):(Nat->Nat->R)->R:=List.rec (motive:=λ_=>(Nat->Nat->R)->R) (λk=>k 0 0) (λv _ ih k=>cC id v λkd x=>aF (YM kd 4) (ih λlen n=>au (Yd x (Yj 256 n)) λn'=>au (WN len) λlen'=>k len' n') (no 0)) l
noncomputable def qz (len:Nat):Nat->(List V->R)->R:=Nat.rec (motive:=λ_=>Nat->(List V->R)->R) (λ_ k=>k []) (λ_ ih n k=>au (Yq n 256) λx=>au (Wf n 256) λn'=>ih n' λr=>k (.int 4 x :: r)) len
noncomputable def dO (id:Nat) (x:V) (k:List V->R):R:=V.rec (motive_1:=λ_=>R) (motive_2:=λ_=>R) (λkd n=>k [.int kd n]) (λb=>k [.bool b]) (λl n=>k [.str l n]) (λb o=>k [.ptr b o]) (k [.pK]) (λb o l c s=>k [.slice b o l c s]) (k [.az]) (λb=>k [.map b]) (k [.yg]) (λf l ih=>k [.func f l]) (λb=>k [.td b]) (k [.lV]) (λt v ih=>k [.iface t v]) (k [.GZ]) (λl _=>k l) (λ_ _=>no 0) (0:R) (λ_ _ _ _=>(0:R)) x
noncomputable def uo (id:Nat) (b:eK) (kc:List V->R) (kb:Nat->Nat->R):R:=eK.rec (motive:=λ_=>R) (no 0) kc kb (λ_=>no 0) (no 0) (λ_ _ _ _ _ _=>no 0) (λ_=>no 0) b
noncomputable def bRd (id:Nat) (b:eK) (kc:List V->R) (kb:Nat->Nat->R) (kv:List V->R):R:=eK.rec (motive:=λ_=>R) (no 0) kc kb (λ_=>no 0) (no 0) (λ_ _ _ _ _ _=>no 0) kv b
noncomputable def sc (id:Nat) (b:eK) (km:List (V × V)->R):R:=eK.rec (motive:=λ_=>R) (no 0) (λ_=>no 0) (λ_ _=>no 0) km (no 0) (λ_ _ _ _ _ _=>no 0) (λ_=>no 0) b
noncomputable def eZ (b:eK) (k:Nat->Nat->Env->List Slot->RC->RC->R):R:=eK.rec (motive:=λ_=>R) (no 9) (λ_=>no 9) (λ_ _=>no 9) (λ_=>no 9) (no 9) k (λ_=>no 9) b
noncomputable def dC (H:Heap) (b:Nat) (k:eK->R):R:=Heap.rec (motive:=λ_=>R) (λ_ _ t=>k (HT.get t b)) H
noncomputable def da (id:Nat) (H:Heap) (b:Nat) (x:eK) (k:Heap->R):R:=Heap.rec (motive:=λ_=>R) (λn bz t=>aF (Yx b n) (HT.set x t b λt'=>aF (YX bz b) (k (.mk n bz t')) (k (.mk n b t'))) (no 0)) H
noncomputable def cB (H:Heap) (x:eK) (k:Nat->Heap->R):R:=Heap.rec (motive:=λ_=>R) (λn bz t=>HT.set x t n λt'=>au (WN n) λn'=>k n (.mk n' bz t')) H
noncomputable def nV (id:Nat) (H:Heap) (b off:Nat) (k:V->R):R:=dC H b λbl=>uo id bl (λl=>nth id l off k) λlen n=>aF (Yx off len) (au (Qt (WC n (Yj 8 off)) 255) λx=>k (.int 4 x)) (no 0)
noncomputable def My (id:Nat) (H:Heap) (b off:Nat) (k:V->R):R:=dC H b λbl=>bRd id bl (λl=>nth id l off k) (λlen n=>aF (Yx off len) (au (Qt (WC n (Yj 8 off)) 255) λx=>k (.int 4 x)) (no 0)) λl=>nth id l off λv=>dZ id v (k v)
noncomputable def Ht (id:Nat) (H:Heap) (b off n:Nat) (k:List V->R):R:=dC H b λbl=>bRd id bl (λl=>fI id l off λr=>takeN id r n k) (λlen x=>aF (YX (Yd off n) len) (qz n (WC x (Yj 8 off)) k) (no 0)) λl=>fI id l off λr=>takeN id r n λq=>bu id q (k q)
noncomputable def ec (id:Nat) (H:Heap) (b off n:Nat) (k:List V->R):R:=dC H b λbl=>uo id bl (λl=>fI id l off λr=>takeN id r n k) λlen x=>aF (YX (Yd off n) len) (qz n (WC x (Yj 8 off)) k) (no 0)
noncomputable def mH (id:Nat) (H:Heap) (b off n:Nat) (k:Nat->R):R:=dC H b λbl=>uo id bl (λl=>fI id l off λr=>takeN id r n λq=>iB id q λ_ x=>k x) λlen x=>aF (YX (Yd off n) len) (au (Yq (WC x (Yj 8 off)) (YB1 256 n)) k) (no 0)
noncomputable def eJ (id:Nat) (H:Heap) (b off:Nat) (m:List V) (k:Heap->R):R:=dC H b λbl=>uo id bl (λl=>bu id m (setAt id m l off λl'=>da id H b (.cells l') k))
 λlen x=>iB id m λml mx=>aF (YX (Yd off ml) len)
  (au (Yd (Yq x (YB1 256 off)) (Yt (Yd mx (Yt (WC x (Yj 8 (Yd off ml))) (Yj 8 ml))) (Yj 8 off))) λx'=>da id H b (.bytes len x') k) (no 0)
noncomputable def kE (id:Nat) (f:BF):Nat->Nat->(Nat->R)->R:=BF.rec (motive:=λ_=>Nat->Nat->(Nat->R)->R)
 (λm a b k=>au (Yq (Yd a b) m) k)
 (λm a b k=>au (Yq (Yd a (Wn m b)) m) k)
 (λm a b k=>au (Yq (Yj a b) m) k)
 (λa b k=>au (Qt a b) k)
 (λa b k=>au (Nat.lor a b) k)
 (λa b k=>au (YM4 a b) k)
 (λm a b k=>au (Qt a (YM4 b (Nat.pred m))) k)
 (λm bits a b k=>aF (YX b bits) (au (Yq (Yt a b) m) k) (aF (Yx b 9223372036854775808) (k 0) (no 0)))
 (λhalf bits a b k=>aF (Yx a half) (aF (YX b bits) (au (WC a b) k) (aF (Yx b 9223372036854775808) (k 0) (no 0))) (no 0))
 (λhalf a b k=>aF (Yx a half) (aF (Yx b half) (aF (YM b 0) (no 0) (au (Wf a b) k)) (no 0)) (no 0))
 (λhalf a b k=>aF (Yx a half) (aF (Yx b half) (aF (YM b 0) (no 0) (au (Yq a b) k)) (no 0)) (aF (Yx b half) (aF (YM b 0) (no 0) (au (Yq (Wn (Yj 2 half) (Yq (Wn (Yj 2 half) a) b)) (Yj 2 half)) k)) (no 0)))
 f
noncomputable def dA (f:CF):Nat->Nat->Bool:=CF.rec (motive:=λ_=>Nat->Nat->Bool)
 (λa b=>YM a b) (λa b=>Bool.rec true false (YM a b))
 (λo m a b=>Yx (Yq (Yd a o) m) (Yq (Yd b o) m))
 (λo m a b=>YX (Yq (Yd a o) m) (Yq (Yd b o) m))
 (λo m a b=>Yx (Yq (Yd b o) m) (Yq (Yd a o) m))
 (λo m a b=>YX (Yq (Yd b o) m) (Yq (Yd a o) m))
 f
abbrev K:=V->Heap->R
abbrev cU:=V->List V->Heap->K->R
noncomputable def afV (id:Nat) (ph:cU) (e:Env) (H:Heap) (k:K):R:=no 0
noncomputable def afW (x:Arg) (id:Nat) (ph:cU) (e:Env) (H:Heap) (k:K):R:=aG x e λv=>k v H
noncomputable def adr (c x y:Arg) (id:Nat) (ph:cU) (e:Env) (H:Heap) (k:K):R:=aG c e λc=>eV id c λb=>aF b (aG x e λv=>k v H) (aG y e λv=>k v H)
noncomputable def adq (z:List V) (id:Nat) (ph:cU) (e:Env) (H:Heap) (k:K):R:=cB H (.cells z) λn H=>k (.ptr n 0) H
noncomputable def adp (n:Nat) (id:Nat) (ph:cU) (e:Env) (H:Heap) (k:K):R:=cB H (.bytes n 0) λn H=>k (.ptr n 0) H
noncomputable def Ra (x:Arg) (id:Nat) (ph:cU) (e:Env) (H:Heap) (k:K):R:=aG x e λv=>dO id v λl=>bu id l (cB H (.cells l) λn H=>k (.ptr n 0) H)
noncomputable def kJ (id:Nat) (e:Env) (parts:List (Nat × Nat × Arg)):List V->(List V->R)->R:=List.rec (motive:=λ_=>List V->(List V->R)->R) (λz k=>k z)
 (λp _ ih z k=>YH1 (motive:=λ_=>R) (λoff q=>YH1 (motive:=λ_=>R) (λsize a=>aG a e λv=>dO id v λl=>aF (YM (fD l) size) (setAt id l z off λz'=>ih z' k) (no 0)) q) p) parts
noncomputable def Rb (zero:List V) (parts:List (Nat × Nat × Arg)) (id:Nat) (ph:cU) (e:Env) (H:Heap) (k:K):R:=kJ id e parts zero λl=>k (.agg l) H
noncomputable def B7 (u8:Bool) (len:Nat) (zero:List V) (parts:List (Nat × Nat × Arg)) (id:Nat) (ph:cU) (e:Env) (H:Heap) (k:K):R:=
 kJ id e parts zero λl=>aF u8 (iB id l λln n=>cB H (.bytes ln n) λb H=>k (.slice b 0 len (WN len) 0) H) (bu id l (cB H (.cells l) λb H=>k (.slice b 0 len (WN len) 0) H))
noncomputable def rh (a:Arg) (id:Nat) (ph:cU) (e:Env) (H:Heap) (k:K):R:=aG a e λa=>dQ id a λb o=>My id H b o λv=>k v H
noncomputable def ri (n:Nat) (a:Arg) (id:Nat) (ph:cU) (e:Env) (H:Heap) (k:K):R:=aG a e λa=>dQ id a λb o=>Ht id H b o n λl=>k (.agg l) H
noncomputable def vH (a x:Arg) (id:Nat) (ph:cU) (e:Env) (H:Heap) (k:K):R:=aG a e λa=>dQ id a λb o=>aG x e λx=>dZ id x (eJ id H b o [x] λH=>k (.cH []) H)
noncomputable def vJ (n:Nat) (a x:Arg) (id:Nat) (ph:cU) (e:Env) (H:Heap) (k:K):R:=aG a e λa=>dQ id a λb o=>aG x e λx=>iS id x λl=>aF (YM (fD l) n) (eJ id H b o l λH=>k (.cH []) H) (no 0)
noncomputable def Ma (x:Arg) (id:Nat) (ph:cU) (e:Env) (H:Heap) (k:K):R:=aG x e λv=>V.rec (motive_1:=λ_=>R) (motive_2:=λ_=>R) (λkd n=>k (.int kd n) H) (λb=>k (.bool b) H) (λl n=>k (.str l n) H) (λb o=>k (.ptr b o) H) (no 0) (λb o l c s=>k (.slice b o l c s) H) (k .az H) (λb=>k (.map b) H) (k .yg H) (λf l ih=>k (.func f l) H) (λb=>k (.td b) H) (no 0) (λt v ih=>k (.iface t v) H) (no 0) (λl ih=>k (.agg l) H) (λl ih=>k (.cH l) H) (0:R) (λ_ _ _ _=>(0:R)) v
noncomputable def Nd (kd ky:Nat) (f:BF) (x y:Arg) (id:Nat) (ph:cU) (e:Env) (H:Heap) (k:K):R:=aG x e λx=>cC id x λk1 a=>aG y e λy=>cC id y λk2 b=>aF (YM k1 kd) (aF (YM k2 ky) (kE id f a b λr=>k (.int kd r) H) (no 0)) (no 0)
noncomputable def aag (kd:Nat) (f:CF) (x y:Arg) (id:Nat) (ph:cU) (e:Env) (H:Heap) (k:K):R:=aG x e λx=>cC id x λk1 a=>aG y e λy=>cC id y λk2 b=>aF (YM k1 kd) (aF (YM k2 kd) (aF (dA f a b) (k (.bool true) H) (k (.bool false) H)) (no 0)) (no 0)
noncomputable def Fy (x y:Arg) (id:Nat) (ph:cU) (e:Env) (H:Heap) (k:K):R:=aG x e λx=>ej id x λl1 n1=>aG y e λy=>ej id y λl2 n2=>au (Yd l1 l2) λl=>aF (Yx l 9223372036854775808) (au (Yd n1 (Yt n2 (Yj 8 l1))) λn=>k (.str l n) H) (no 0)
noncomputable def Rr (neg:Bool) (x y:Arg) (id:Nat) (ph:cU) (e:Env) (H:Heap) (k:K):R:=aG x e λx=>ej id x λl1 n1=>aG y e λy=>ej id y λl2 n2=>aF (YM l1 l2) (aF (YM n1 n2) (aF neg (k (.bool false) H) (k (.bool true) H)) (k (.bool neg) H)) (k (.bool neg) H)
noncomputable def gh (id:Nat) (x:V) (k:Nat->R):R:=V.rec (motive_1:=λ_=>R) (motive_2:=λ_=>R) (λ_ _=>no 0) (λb=>aF b (k 2) (k 3)) (λ_ _=>no 0) (λ_ _=>k 11) (k 10) (λ_ _ _ _ _=>k 21) (k 20) (λ_=>k 31) (k 30) (λ_ _ _=>k 41) (λ_=>no 0) (k 40) (λ_ _ _=>k 51) (k 50) (λ_ _=>no 0) (λ_ _=>no 0) (0:R) (λ_ _ _ _=>(0:R)) x
noncomputable def Va (kc:Nat) (neg:Bool) (x y:Arg) (id:Nat) (ph:cU) (e:Env) (H:Heap) (k:K):R:=aG x e λx=>gh id x λa=>aG y e λy=>gh id y λb=>aF (YM (Wf a 10) kc) (aF (YM (Wf b 10) kc) (aF (YM a b) (aF (YM (Yq a 10) 1) (no 0) (aF neg (k (.bool false) H) (k (.bool true) H))) (k (.bool neg) H)) (no 0)) (no 0)
noncomputable def Rm (x:Arg) (id:Nat) (ph:cU) (e:Env) (H:Heap) (k:K):R:=aG x e λx=>eV id x λb=>aF b (k (.bool false) H) (k (.bool true) H)
noncomputable def JC (src dst mode c:Nat) (x:Arg) (id:Nat) (ph:cU) (e:Env) (H:Heap) (k:K):R:=aG x e λx=>cC id x λk1 a=>aF (YM k1 src) (Nat.rec (motive:=λ_=>R) (au (Yq a c) λr=>k (.int dst r) H) (λ_ _=>aF (Yx a mode) (k (.int dst a) H) (au (Yd a c) λr=>k (.int dst r) H)) mode) (no 0)
noncomputable def xu (x:Arg) (id:Nat) (ph:cU) (e:Env) (H:Heap) (k:K):R:=aG x e λx=>bG id x (λb o l _ _=>mH id H b o l λn=>k (.str l n) H) (k (.str 0 0) H)
noncomputable def xv (x:Arg) (id:Nat) (ph:cU) (e:Env) (H:Heap) (k:K):R:=aG x e λx=>ej id x λl n=>aF (YX l 16777216) (cB H (.bytes l n) λb H=>k (.slice b 0 l 0 1) H) (no 0)
noncomputable def aar (t:Nat) (x:Arg) (id:Nat) (ph:cU) (e:Env) (H:Heap) (k:K):R:=aG x e λx=>vIf id t x λv=>k (.cH [v,.bool true]) H
noncomputable def aal (t:Nat) (x:Arg) (id:Nat) (ph:cU) (e:Env) (H:Heap) (k:K):R:=aG x e λv=>k (.iface t v) H
noncomputable def Rp (f:Nat) (caps:List Arg) (id:Nat) (ph:cU) (e:Env) (H:Heap) (k:K):R:=px caps e λl=>k (.func f l) H
noncomputable def aam (id:Nat) (ph:cU) (e:Env) (H:Heap) (k:K):R:=cB H (.map []) λb H=>k (.map b) H
noncomputable def xx (u8:Bool) (zero:List V) (l c:Arg) (id:Nat) (ph:cU) (e:Env) (H:Heap) (k:K):R:=aG l e λl=>cC id l λkl l=>aG c e λc=>cC id c λkc c=>aF (YX 3 kl) (aF (YX 3 kc) (aF (YX l c) (aF (YX c 16777216)
 (aF u8 (cB H (.bytes c 0) λb H=>au (WN c) λc1=>k (.slice b 0 l c1 0) H) (W7 zero c λr=>bu id r (cB H (.cells r) λb H=>au (WN c) λc1=>k (.slice b 0 l c1 0) H))) (no 0)) (no 0)) (no 0)) (no 0)
noncomputable def gS (id:Nat) (x:Option Arg) (e:Env) (d:Nat) (k:Nat->R):R:=Option.rec (motive:=λ_=>R) (k d) (λa=>aG a e λv=>cC id v λkd n=>aF (YX 3 kd) (aF (Yx n 9223372036854775808) (k n) (no 0)) (no 0)) x
noncomputable def aap (x:Arg) (lo hi:Option Arg) (id:Nat) (ph:cU) (e:Env) (H:Heap) (k:K):R:=aG x e λx=>ej id x λlen n=>gS id hi e len λh=>gS id lo e 0 λl=>aF (YX l h) (aF (YX h len) (au (Wn h l) λd=>au (Yq (WC n (Yj 8 l)) (YB1 256 d)) λr=>k (.str d r) H) (no 0)) (no 0)
noncomputable def aaq (size:Nat) (x:Arg) (lo hi mx:Option Arg) (id:Nat) (ph:cU) (e:Env) (H:Heap) (k:K):R:=aG x e λx=>bG id x (λb o len cp sz=>
 gS id lo e 0 λl=>gS id hi e len λh=>aF (YX l h) (au (Wn h l) λd=>
  Option.rec (motive:=λ_=>R)
   (Nat.rec (motive:=λ_=>R)
    (aF (YX h len) (aF (YM sz size) (au (Yd o (Yj l size)) λo'=>k (.slice b o' d 0 sz) H) (no 0)) (no 0))
    (λq _=>aF (YX h q) (aF (YM q l) (k (.slice b o d 1 0) H) (au (Yd o (Yj l size)) λo'=>au (WN (Wn q l)) λc'=>k (.slice b o' d c' 0) H)) (no 0)) cp)
   (λm=>gS id (some m) e 0 λm=>aF (YX h m) (aF (YX m (Nat.rec (motive:=λ_=>Nat) len (λq _=>q) cp)) (aF (YM m l) (k (.slice b o d 1 0) H) (au (Yd o (Yj l size)) λo'=>au (WN (Wn m l)) λc'=>k (.slice b o' d c' 0) H)) (no 0)) (no 0)) mx) (no 0))
 (gS id lo e 0 λl=>gS id hi e 0 λh=>gS id mx e 0 λm=>aF (YM l 0) (aF (YM h 0) (aF (YM m 0) (k .az H) (no 0)) (no 0)) (no 0))
noncomputable def aao (n size:Nat) (x:Arg) (lo hi mx:Option Arg) (id:Nat) (ph:cU) (e:Env) (H:Heap) (k:K):R:=aG x e λx=>dQ id x λb o=>gS id mx e n λm=>gS id hi e n λh=>gS id lo e 0 λl=>aF (YX l h) (aF (YX h m) (aF (YX m n) (au (Wn h l) λd=>aF (YM m l) (k (.slice b o d 1 0) H) (au (Yd o (Yj l size)) λo'=>au (WN (Wn m l)) λc'=>k (.slice b o' d c' 0) H)) (no 0)) (no 0)) (no 0)
noncomputable def Rg (off:Nat) (x:Arg) (id:Nat) (ph:cU) (e:Env) (H:Heap) (k:K):R:=aG x e λx=>dQ id x λb o=>au (Yd o off) λo'=>k (.ptr b o') H
noncomputable def Rh (off:Nat) (x:Arg) (id:Nat) (ph:cU) (e:Env) (H:Heap) (k:K):R:=aG x e λx=>iS id x λl=>nth id l off λv=>k v H
noncomputable def Ri (off n:Nat) (x:Arg) (id:Nat) (ph:cU) (e:Env) (H:Heap) (k:K):R:=aG x e λx=>iS id x λl=>fI id l off λr=>takeN id r n λq=>k (.agg q) H
noncomputable def idx (id:Nat) (i:Arg) (e:Env) (len:Nat) (k:Nat->R):R:=aG i e λv=>cC id v λkd n=>aF (YX 3 kd) (aF (Yx n len) (aF (Yx n 9223372036854775808) (k n) (no 0)) (no 0)) (no 0)
noncomputable def aah (len size:Nat) (x i:Arg) (id:Nat) (ph:cU) (e:Env) (H:Heap) (k:K):R:=aG x e λx=>dQ id x λb o=>idx id i e len λn=>au (Yd o (Yj n size)) λo'=>k (.ptr b o') H
noncomputable def aak (size:Nat) (x i:Arg) (id:Nat) (ph:cU) (e:Env) (H:Heap) (k:K):R:=aG x e λx=>lY id x λb o len _ _=>idx id i e len λn=>au (Yd o (Yj n size)) λo'=>k (.ptr b o') H
noncomputable def aaj (x i:Arg) (id:Nat) (ph:cU) (e:Env) (H:Heap) (k:K):R:=aG x e λx=>ej id x λlen m=>idx id i e len λn=>au (Qt (WC m (Yj 8 n)) 255) λr=>k (.int 4 r) H
noncomputable def aai (len size:Nat) (agg:Bool) (x i:Arg) (id:Nat) (ph:cU) (e:Env) (H:Heap) (k:K):R:=aG x e λx=>iS id x λl=>idx id i e len λn=>aF agg (fI id l (Yj n size) λr=>takeN id r size λq=>k (.agg q) H) (nth id l (Yj n size) λv=>k v H)
noncomputable def Mf (id:Nat) (ks:Bool) (x y:V) (k:Bool->R):R:=V.rec (motive_1:=λ_=>R) (motive_2:=λ_=>R) (λk1 a=>cC id y λk2 b=>aF ks (no 0) (aF (YM k1 k2) (k (YM a b)) (no 0))) (λ_=>no 0) (λl1 a=>ej id y λl2 b=>aF ks (aF (YM l1 l2) (k (YM a b)) (k false)) (no 0)) (λ_ _=>no 0) (no 0) (λ_ _ _ _ _=>no 0) (no 0) (λ_=>no 0) (no 0) (λ_ _ _=>no 0) (λ_=>no 0) (no 0) (λ_ _ _=>no 0) (no 0) (λ_ _=>no 0) (λ_ _=>no 0) (0:R) (λ_ _ _ _=>(0:R)) x
noncomputable def uJ (id:Nat) (ks:Bool) (es:List (V × V)) (x:V) (f:V->R) (z:R):R:=List.rec (motive:=λ_=>R) z (λp _ ih=>YH1 (motive:=λ_=>R) (λa v=>Mf id ks x a λb=>aF b (f v) ih) p) es
noncomputable def Ig (id:Nat) (ks:Bool) (es:List (V × V)) (x y:V):(List (V × V)->R)->R:=List.rec (motive:=λ_=>(List (V × V)->R)->R) (λk=>k [(x,y)]) (λp l ih k=>YH1 (motive:=λ_=>R) (λa v=>Mf id ks x a λb=>aF b (k ((a,y):: l)) (ih λr=>k ((a,v):: r))) p) es
noncomputable def ado (id:Nat) (ks:Bool) (es:List (V × V)) (x:V):(List (V × V)->R)->R:=List.rec (motive:=λ_=>(List (V × V)->R)->R) (λk=>k []) (λp l ih k=>YH1 (motive:=λ_=>R) (λa v=>Mf id ks x a λb=>aF b (k l) (ih λr=>k ((a,v):: r))) p) es
noncomputable def Rn (ks:Bool) (zero:V) (ok:Bool) (m x:Arg) (id:Nat) (ph:cU) (e:Env) (H:Heap) (k:K):R:=aG m e λm=>aG x e λx=>
 qS id m (λb=>dC H b λbl=>sc id bl λes=>uJ id ks es x (λv=>aF ok (k (.cH [v,.bool true]) H) (k v H)) (aF ok (k (.cH [zero,.bool false]) H) (k zero H))) (aF ok (k (.cH [zero,.bool false]) H) (k zero H))
noncomputable def isKey (id:Nat) (x:V) (k:R):R:=V.rec (motive_1:=λ_=>R) (motive_2:=λ_=>R) (λ_ _=>k) (λ_=>no 0) (λ_ _=>k) (λ_ _=>no 0) (no 0) (λ_ _ _ _ _=>no 0) (no 0) (λ_=>no 0) (no 0) (λ_ _ _=>no 0) (λ_=>no 0) (no 0) (λ_ _ _=>no 0) (no 0) (λ_ _=>no 0) (λ_ _=>no 0) (0:R) (λ_ _ _ _=>(0:R)) x
noncomputable def Rq (ks:Bool) (m x y:Arg) (id:Nat) (ph:cU) (e:Env) (H:Heap) (k:K):R:=aG m e λm=>aG x e λx=>aG y e λy=>Iz id m λb=>dC H b λbl=>sc id bl λes=>isKey id x (Ig id ks es x y λes'=>da id H b (.map es') λH=>k (.cH []) H)
noncomputable def Ro (ks:Bool) (m x:Arg) (id:Nat) (ph:cU) (e:Env) (H:Heap) (k:K):R:=aG m e λm=>aG x e λx=>Iz id m λb=>dC H b λbl=>sc id bl λes=>ado id ks es x λes'=>da id H b (.map es') λH=>k (.cH []) H
noncomputable def Rf (x:Arg) (i:Nat) (id:Nat) (ph:cU) (e:Env) (H:Heap) (k:K):R:=aG x e λx=>zO id x λl=>nth id l i λv=>k v H
noncomputable def Rc (f:Nat) (args:List Arg) (id:Nat) (ph:cU) (e:Env) (H:Heap) (k:K):R:=px args e λl=>ph (.func f []) l H k
noncomputable def JB (x:Arg) (args:List Arg) (id:Nat) (ph:cU) (e:Env) (H:Heap) (k:K):R:=aG x e λx=>px args e λl=>ph x l H k
noncomputable def cT (id:Nat) (size:Nat) (H:Heap) (x:V) (k:Nat->List V->R):R:=V.rec (motive_1:=λ_=>R) (motive_2:=λ_=>R) (λ_ _=>no 0) (λ_=>no 0) (λl n=>aF (YM size 1) (qz l n λm=>k l m) (no 0)) (λ_ _=>no 0) (no 0) (λb o l _ _=>Nat.rec (motive:=λ_=>R) (k 0 []) (λ_ _=>Ht id H b o (Yj l size) λm=>k l m) l) (k 0 []) (λ_=>no 0) (no 0) (λ_ _ _=>no 0) (λ_=>no 0) (no 0) (λ_ _ _=>no 0) (no 0) (λ_ _=>no 0) (λ_ _=>no 0) (0:R) (λ_ _ _ _=>(0:R)) x
noncomputable def ye (id:Nat) (H:Heap) (x:V) (k:Nat->Nat->R):R:=V.rec (motive_1:=λ_=>R) (motive_2:=λ_=>R) (λ_ _=>no 0) (λ_=>no 0) (λl n=>k l n) (λ_ _=>no 0) (no 0) (λb o l _ _=>mH id H b o l λm=>k l m) (k 0 0) (λ_=>no 0) (no 0) (λ_ _ _=>no 0) (λ_=>no 0) (no 0) (λ_ _ _=>no 0) (no 0) (λ_ _=>no 0) (λ_ _=>no 0) (0:R) (λ_ _ _ _=>(0:R)) x
noncomputable def rX (id size:Nat) (n:Nat) (new:List V) (b o len cp sz:Nat) (H:Heap) (k:K):R:=bu id new (au (Yd len n) λneed=>aF (YX need 1073741824) (
 Nat.rec (motive:=λ_=>R)
  (aF (YM sz size) (aF (YM o 0) (dC H b λbl=>uo id bl (λl=>aF (YM (fD l) (Yj len size)) (jO l new λl'=>da id H b .dead λH=>cB H (.cells l') λb' H=>k (.slice b' 0 need 0 size) H) (no 0)) (λ_ _=>no 0)) (no 0)) (no 0))
  (λq _=>aF (YX need q) (eJ id H b (Yd o (Yj len size)) new λH=>k (.slice b o need cp sz) H) (ec id H b o (Yj len size) λl=>bu id l (jO l new λl'=>cB H (.cells l') λb' H=>k (.slice b' 0 need 0 size) H))) cp) (no 0))
noncomputable def L9 (size:Nat) (s x:Arg) (id:Nat) (e:Env) (H:Heap) (k:K):R:=aG s e λs=>aG x e λx=>cT id size H x λn new=>
 bG id s (λb o len cp sz=>Nat.rec (motive:=λ_=>R) (k s H) (λ_ _=>rX id size n new b o len cp sz H k) n)
  (Nat.rec (motive:=λ_=>R) (k s H) (λ_ _=>bu id new (aF (YX n 1073741824) (cB H (.cells new) λb' H=>k (.slice b' 0 n 0 size) H) (no 0))) n)
noncomputable def MP (id:Nat) (n new:Nat) (b o len cp sz:Nat) (H:Heap) (k:K):R:=au (Yd len n) λneed=>aF (YX need 1073741824) (
 Nat.rec (motive:=λ_=>R)
  (aF (YM sz 1) (aF (YM o 0) (dC H b λbl=>uo id bl (λ_=>no 0) (λln m=>aF (YM ln len) (au (Yd m (Yt new (Yj 8 len))) λm'=>da id H b .dead λH=>cB H (.bytes need m') λb' H=>k (.slice b' 0 need 0 1) H) (no 0))) (no 0)) (no 0))
  (λq _=>aF (YX need q) (no 0) (mH id H b o len λm=>au (Yd m (Yt new (Yj 8 len))) λm'=>cB H (.bytes need m') λb' H=>k (.slice b' 0 need 0 1) H)) cp) (no 0)
noncomputable def L8 (s x:Arg) (id:Nat) (e:Env) (H:Heap) (k:K):R:=aG s e λs=>aG x e λx=>ye id H x λn new=>
 bG id s (λb o len cp sz=>Nat.rec (motive:=λ_=>R) (k s H) (λ_ _=>MP id n new b o len cp sz H k) n)
  (Nat.rec (motive:=λ_=>R) (k s H) (λ_ _=>aF (YX n 1073741824) (cB H (.bytes n new) λb' H=>k (.slice b' 0 n 0 1) H) (no 0)) n)
noncomputable def afU (u8:Bool) (size:Nat) (s x:Arg) (id:Nat) (ph:cU) (e:Env) (H:Heap) (k:K):R:=aF u8 (L8 s x id e H k) (L9 size s x id e H k)
noncomputable def Sl (id:Nat) (x:V) (k:Nat->R):R:=V.rec (motive_1:=λ_=>R) (motive_2:=λ_=>R) (λ_ _=>no 0) (λ_=>no 0) (λl _=>k l) (λ_ _=>no 0) (no 0) (λ_ _ l _ _=>k l) (k 0) (λ_=>no 0) (no 0) (λ_ _ _=>no 0) (λ_=>no 0) (no 0) (λ_ _ _=>no 0) (no 0) (λ_ _=>no 0) (λ_ _=>no 0) (0:R) (λ_ _ _ _=>(0:R)) x
noncomputable def NN (a b:Nat) (k:Nat->R):R:=aF (YX a b) (k a) (k b)
noncomputable def lj (id n:Nat) (H:Heap) (k:K):R:=aF (Yx n 9223372036854775808) (k (.int 3 n) H) (no 0)
noncomputable def Re (size:Nat) (d s:Arg) (id:Nat) (ph:cU) (e:Env) (H:Heap) (k:K):R:=aG d e λd=>aG s e λs=>bG id d (λb o dl _ _=>Sl id s λsl=>NN sl dl λn=>cT id size H s λ_ l=>takeN id l (Yj n size) λm=>Nat.rec (motive:=λ_=>R) (k (.int 3 0) H) (λ_ _=>eJ id H b o m λH=>lj id n H k) n) (cT id size H s λ_ _=>k (.int 3 0) H)
noncomputable def Rl (x:Arg) (id:Nat) (ph:cU) (e:Env) (H:Heap) (k:K):R:=aG x e λx=>ej id x λn _=>lj id n H k
noncomputable def Rj (x:Arg) (id:Nat) (ph:cU) (e:Env) (H:Heap) (k:K):R:=aG x e λx=>bG id x (λ_ _ n _ _=>lj id n H k) (lj id 0 H k)
noncomputable def NL (es:List (V × V)):Nat:=List.rec (motive:=λ_=>Nat) 0 (λ_ _ ih=>WN ih) es
noncomputable def Rk (x:Arg) (id:Nat) (ph:cU) (e:Env) (H:Heap) (k:K):R:=aG x e λx=>qS id x (λb=>dC H b λbl=>sc id bl λes=>au (NL es) λn=>lj id n H k) (lj id 0 H k)
noncomputable def aaf (x:Arg) (id:Nat) (ph:cU) (e:Env) (H:Heap) (k:K):R:=aG x e λx=>bG id x (λ_ _ _ cp _=>Nat.rec (motive:=λ_=>R) (no 0) (λq _=>aF (Yx q 9223372036854775808) (k (.int 3 q) H) (no 0)) cp) (k (.int 3 0) H)
noncomputable def eMm (kd o m:Nat) (mx:Bool) (x y:Arg) (id:Nat) (ph:cU) (e:Env) (H:Heap) (k:K):R:=aG x e λx=>cC id x λk1 a=>aG y e λy=>cC id y λk2 b=>aF (YM k1 kd) (aF (YM k2 kd) (aF (YX (Yq (Yd a o) m) (Yq (Yd b o) m)) (aF mx (k (.int kd b) H) (k (.int kd a) H)) (aF mx (k (.int kd a) H) (k (.int kd b) H))) (no 0)) (no 0)
noncomputable def Hk (o m:Nat) (mx:Bool) (a b:Nat) (k:Nat->R):R:=aF (YX (Yq (Yd a o) m) (Yq (Yd b o) m)) (aF mx (k b) (k a)) (aF mx (k a) (k b))
noncomputable def Vc (kd o m:Nat) (mx:Bool) (x y z:Arg) (id:Nat) (ph:cU) (e:Env) (H:Heap) (k:K):R:=aG x e λx=>cC id x λk1 a=>aG y e λy=>cC id y λk2 b=>aG z e λz=>cC id z λk3 c=>aF (YM k1 kd) (aF (YM k2 kd) (aF (YM k3 kd) (Hk o m mx a b λr=>Hk o m mx r c λq=>k (.int kd q) H) (no 0)) (no 0)) (no 0)
noncomputable def J2 (id:Nat) (c:Nat) (x y:V) (k:Bool->R):R:=Nat.rec (motive:=λ_=>R)
 (eV id x λa=>eV id y λb=>aF a (k b) (aF b (k false) (k true)))
 (λc' _=>Nat.rec (motive:=λ_=>R) (cC id x λk1 a=>cC id y λk2 b=>aF (YM k1 k2) (k (YM a b)) (no 0))
  (λ_ _=>ej id x λl1 a=>ej id y λl2 b=>aF (YM l1 l2) (k (YM a b)) (k false)) c') c
noncomputable def AJ (l:List Nat):Nat:=List.rec (motive:=λ_=>Nat) 0 (λ_ _ ih=>WN ih) l
noncomputable def jj (id:Nat) (cls:List Nat):List V->List V->(Bool->R)->R:=List.rec (motive:=λ_=>List V->List V->(Bool->R)->R) (λ_ _ k=>k true)
 (λc _ ih l m k=>List.rec (motive:=λ_=>R) (no 0) (λa l' _=>List.rec (motive:=λ_=>R) (no 0) (λb m' _=>J2 id c a b λr=>aF r (ih l' m' k) (k false)) m) l) cls
noncomputable def JA (cls:List Nat) (neg:Bool) (x y:Arg) (id:Nat) (ph:cU) (e:Env) (H:Heap) (k:K):R:=aG x e λx=>iS id x λl=>aG y e λy=>iS id y λm=>aF (YM (fD l) (AJ cls)) (aF (YM (fD m) (AJ cls)) (jj id cls l m λb=>aF b (aF neg (k (.bool false) H) (k (.bool true) H)) (k (.bool neg) H)) (no 0)) (no 0)
noncomputable def aL (o:lA):Nat->cU->Env->Heap->K->R:=lA.rec (motive:=λ_=>Nat->cU->Env->Heap->K->R)
 afV afW adr adq adp Ra Rb B7 rh ri vH vJ Ma Nd aag Fy Rr Va Rm JC xu xv aal Rp aam xx aap aaq aao Rg Rh Ri aah aak aaj aai Rn Rq Ro Rf Rc JB afU Re Rl Rj Rk aaf eMm JA Vc aar o
noncomputable def bV (d:Option Slot) (v:V) (e:Env) (k:Env->R):R:=Option.rec (motive:=λ_=>R) (k e) (λs=>KZ s v e k) d
noncomputable def IM (x:V) (want:Bool) (t f:R):R:=V.rec (motive_1:=λ_=>R) (motive_2:=λ_=>R) (λ_ _=>f) (λb=>Bool.rec (motive:=λ_=>R) (aF want f t) (aF want t f) b) (λ_ _=>f) (λ_ _=>f) (f) (λ_ _ _ _ _=>f) (f) (λ_=>f) (f) (λ_ _ _=>f) (λ_=>f) (f) (λ_ _ _=>f) (f) (λ_ _=>f) (λ_ _=>f) (0:R) (λ_ _ _ _=>(0:R)) x
noncomputable def ta (g:Option (Slot × Bool)) (e:Env) (t f:R):R:=Option.rec (motive:=λ_=>R) t (λp=>YH1 (motive:=λ_=>R) (λs b=>ik s e λv=>IM v b t f) p) g
noncomputable def fJ (ph:cU) (l:List rQ):Env->Heap->(Env->Heap->R)->R:=List.rec (motive:=λ_=>Env->Heap->(Env->Heap->R)->R) (λe H k=>k e H)
 (λo _ ih e H k=>rQ.rec (motive:=λ_=>R) (λid d g _ op=>ta g e (aL op id ph e H λv H'=>bV d v e λe'=>ih e' H' k) (bV d (.cH []) e λe'=>ih e' H k)) o) l
noncomputable def bO (ph:cU) (l:List rQ):Env->Heap->(Env->Heap->R)->R:=List.rec (motive:=λ_=>Env->Heap->(Env->Heap->R)->R) (λe H k=>k e H)
 (λo _ ih e H k=>rQ.rec (motive:=λ_=>R) (λid d g cls op=>ta g e
  (Nat.rec (motive:=λ_=>R)
   (aL op id ph e H λv H'=>bV d v e λe'=>ih e' H' k)
   (λ_ _=>Heap.rec (motive:=λ_=>R) (λn bz t=>aL op id ph e (.mk n n t) λv H'=>Heap.rec (motive:=λ_=>R) (λn' wlo' t'=>aF (YX n wlo') (bV d v e λe'=>ih e' (.mk n' bz t') k) (no 0)) H') H) cls)
  (bV d (.cH []) e λe'=>ih e' H k)) o) l
abbrev KE:=Env->Heap->R
noncomputable def nR (id:Nat) (x:V) (k:Option Nat->R):R:=V.rec (motive_1:=λ_=>R) (motive_2:=λ_=>R) (λ_ _=>no 0) (λ_=>no 0) (λ_ _=>no 0) (λb _=>k (some b)) (no 0) (λb _ _ _ _=>k (some b)) (k none) (λ_=>no 0) (no 0) (λ_ _ _=>no 0) (λ_=>no 0) (no 0) (λ_ _ _=>no 0) (no 0) (λ_ _=>no 0) (λ_ _=>no 0) (0:R) (λ_ _ _ _=>(0:R)) x
noncomputable def dv (id bf b:Nat) (l:List (Nat × Nat)) (k:R):R:=List.rec (motive:=λ_=>R) k (λp _ ih=>YH1 (motive:=λ_=>R) (λi' b'=>aF (Nat.testBit bf i') ih (aF (YM b b') (no 0) ih)) p) l
noncomputable def Ai (id:Nat) (b:eK) (k:R):R:=uo id b (λl=>List.rec (motive:=λ_=>R) k (λv _ ih=>isKey id v ih) l) λ_ _=>no 0
noncomputable def bD (ph:cU) (n0:Nat) (l:List uY):Env->Heap->List (Nat × Nat)->List (Nat × Nat)->(Env->Heap->R)->R:=List.rec (motive:=λ_=>Env->Heap->List (Nat × Nat)->List (Nat × Nat)->(Env->Heap->R)->R) (λe H _ _ k=>k e H)
 (λo _ ih e H fl st k=>uY.rec (motive:=λ_=>R) (λid d g tag i bf ad op=>ta g e
  (Nat.rec (motive:=λ_=>R)
   (aL op id ph e H λv H'=>bV d v e λe'=>ih e' H' fl st k)
   (λt1 _=>Nat.rec (motive:=λ_=>R)
    (Heap.rec (motive:=λ_=>R) (λn bz t=>aL op id ph e (.mk n n t) λv H'=>Heap.rec (motive:=λ_=>R) (λn' wlo' t'=>aF (YX n wlo') (bV d v e λe'=>ih e' (.mk n' bz t') fl st k) (no 0)) H') H)
    (λt2 _=>aG ad e λa=>nR id a λob=>Nat.rec (motive:=λ_=>R)
     (Option.rec (motive:=λ_=>R) (no 0) (λb=>aF (Yx b n0) (dv id bf b st (aL op id ph e H λv H'=>bV d v e λe'=>ih e' H ((i,b):: fl) st k)) (no 0)) ob)
     (λt3 _=>Nat.rec (motive:=λ_=>R)
      (Option.rec (motive:=λ_=>R) (aL op id ph e H λv H'=>bV d v e λe'=>ih e' H' fl st k)
       (λb=>dv id bf b fl (aL op id ph e H λv H'=>bV d v e λe'=>ih e' H' fl ((i,b):: st) k)) ob)
      (λ_ _=>Heap.rec (motive:=λ_=>R) (λn bz t=>aL op id ph e (.mk n n t) λv H'=>Heap.rec (motive:=λ_=>R) (λn' wlo' t'=>aF (YX n wlo') (Ai id (HT.get t' n) (bV d v e λe'=>ih e' (.mk n' bz t') ((i,n):: fl) st k)) (no 0)) H') H) t3) t2) t1) tag)
  (bV d (.cH []) e λe'=>ih e' H fl st k)) o) l
noncomputable def Tt (x y:V) (k:R):R:=cC 0 x λk1 a=>cC 0 y λk2 b=>aF (YM k1 k2) (aF (YM a b) k (no 0)) (no 0)
noncomputable def rD (l:List V):List V->R->R:=List.rec (motive:=λ_=>List V->R->R) (λm k=>List.rec (motive:=λ_=>R) k (λ_ _ _=>no 0) m) (λa _ ih m k=>List.rec (motive:=λ_=>R) (no 0) (λb m' _=>Tt a b (ih m' k)) m) l
noncomputable def yE (x y:eK) (k:R):R:=uo 0 x (λl=>uo 0 y (λm=>rD l m k) λ_ _=>no 0) λ_ _=>no 0
noncomputable def uR (b:Nat) (x:eK) (hs:List Heap) (k:R):R:=List.rec (motive:=λ_=>R) k (λG _ ih=>dC G b λy=>yE y x ih) hs
noncomputable def uS (H H':Heap) (bs:List Nat) (k:R):R:=List.rec (motive:=λ_=>R) k (λb _ ih=>dC H b λx=>dC H' b λy=>yE y x ih) bs
noncomputable def fK (ph:cU) (n0:Nat) (l:List uY):Env->Heap->List Heap->List Nat->(Env->Heap->R)->R:=List.rec (motive:=λ_=>Env->Heap->List Heap->List Nat->(Env->Heap->R)->R) (λe H _ _ k=>k e H)
 (λo _ ih e H hs bs k=>uY.rec (motive:=λ_=>R) (λid d g tag _ _ ad op=>ta g e
  (aF (YM tag 5)
   (aG ad e λa=>nR id a λob=>Option.rec (motive:=λ_=>R) (no 0) (λb=>aF (Yx b n0) (dC H b λx=>uR b x hs (aL op id ph e H λv _=>bV d v e λe'=>ih e' H hs (b :: bs) k)) (no 0)) ob)
   (aF (YM tag 6)
    (aL op id ph e H λv H'=>uS H H' bs (bV d v e λe'=>ih e' H' (H :: hs) bs k))
    (aL op id ph e H λv H'=>bV d v e λe'=>ih e' H' hs bs k)))
  (bV d (.cH []) e λe'=>ih e' H hs bs k)) o) l
noncomputable def eR (c:ah):Nat->cU->Env->Heap->KE->(Nat->KE)->R:=ah.rec (motive:=λ_=>Nat->cU->Env->Heap->KE->(Nat->KE)->R)
 (λ_ _ _ _ _ _=>no 8)
 (λ_ _ e H kn _=>kn e H)
 (λops _ ph e H kn _=>fJ ph ops e H kn)
 (λops _ ph e H kn _=>bO ph ops e H kn)
 (λops _ ph e H kn _=>Heap.rec (motive:=λ_=>R) (λn _ _=>bD ph n ops e H [] [] kn) H)
 (λops _ ph e H kn _=>Heap.rec (motive:=λ_=>R) (λn _ _=>fK ph n ops e H [] [] kn) H)
 (λ_ _ iha ihb fuel ph e H kn kx=>iha fuel ph e H (λe H=>ihb fuel ph e H kn kx) kx)
 (λc _ _ iha ihb fuel ph e H kn kx=>aG c e λv=>eV 0 v λb=>aF b (iha fuel ph e H kn kx) (ihb fuel ph e H kn kx))
 (λid _ iha fuel ph e H kn kx=>iha fuel ph e H kn λn e H=>aF (YM n (WN id)) (kn e H) (kx n e H))
 (λ_ iha fuel ph e H _ kx=>Nat.rec (motive:=λ_=>Env->Heap->R) (λ_ _=>no 3) (λ_ ih e H=>iha fuel ph e H ih kx) fuel e H)
 (λid _ _ e H _ kx=>kx (WN id) e H)
 (λ_ _ e H _ kx=>kx 0 e H)
 (λg ps assign body _ ph e H kn kx=>aG g e λg=>yQ 0 g λf caps=>Nat.rec (motive:=λ_=>R) (cB H .mark λ_ H=>cB H (.loop 0 0 e ps assign body) λb H=>ph (.func f caps) [.td b] H λ_ H=>
  dC H b λbl=>eZ bl λst j e' ps' as' bo'=>Nat.rec (motive:=λ_=>R) (da 0 H b (.loop 3 j e' ps' as' bo') λH=>Nat.rec (motive:=λ_=>R) (kn e H) (λm _=>kx m e H) j) (λs _=>Nat.rec (motive:=λ_=>R) (no 10) (λ_ _=>da 0 H b (.loop 3 j e' ps' as' bo') λH=>Nat.rec (motive:=λ_=>R) (kn e H) (λm _=>kx m e H) j) s) st) (λ_ _=>no 14) (Yq f 2))
 (λg ps assign body _ ph e H kn kx=>aG g e λg=>yQ 0 g λf caps=>Nat.rec (motive:=λ_=>R) (cB H (.loop 0 0 e ps assign body) λb H=>ph (.func f caps) [.td b] H λ_ H=>
  dC H b λbl=>eZ bl λst j e' ps' as' bo'=>Nat.rec (motive:=λ_=>R) (da 0 H b (.loop 3 j e' ps' as' bo') λH=>Nat.rec (motive:=λ_=>R) (kn e H) (λm _=>kx m e H) j) (λs _=>Nat.rec (motive:=λ_=>R) (no 10) (λ_ _=>da 0 H b (.loop 3 j e' ps' as' bo') λH=>Nat.rec (motive:=λ_=>R) (kn e H) (λm _=>kx m e H) j) s) st) (λ_ _=>no 14) (Yq f 2))
 c
inductive cP where
 | nat (g:List V->Heap->K->R)
 | code (ps:List Slot) (res:List RV) (c:ah)
noncomputable def adx (r:RV) (e:Env) (H:Heap) (k:V->R):R:=RV.rec (motive:=λ_=>R) (λs=>ik s e k) (λs=>ik s e λv=>dQ 0 v λb o=>nV 0 H b o k) (λs n=>ik s e λv=>dQ 0 v λb o=>ec 0 H b o n λl=>k (.agg l)) r
noncomputable def xM (l:List RV) (e:Env) (H:Heap):(List V->R)->R:=List.rec (motive:=λ_=>(List V->R)->R) (λk=>k []) (λr _ ih k=>adx r e H λv=>ih λq=>k (v :: q)) l
noncomputable def KM (l:List V) (k:V->R):R:=List.rec (motive:=λ_=>R) (k (.cH [])) (λv r _=>List.rec (motive:=λ_=>R) (k v) (λ_ _ _=>k (.cH l)) r) l
noncomputable def gj (ps:List Slot):List V->Env->(Env->R)->R:=List.rec (motive:=λ_=>List V->Env->(Env->R)->R) (λl e k=>List.rec (motive:=λ_=>R) (k e) (λ_ _ _=>no 4) l)
 (λs _ ih l e k=>List.rec (motive:=λ_=>R) (no 5) (λv r _=>KZ s v e λe'=>ih r e' k) l) ps
noncomputable def u0:V:=.cH []
noncomputable def u1:N8 V:=.mk u0 u0 u0 u0 u0 u0 u0 u0
noncomputable def u2:N8 (N8 V):=.mk u1 u1 u1 u1 u1 u1 u1 u1
noncomputable def FC:Env:=.mk u2 u2 u2 u2 u2 u2 u2 u2
noncomputable def Vg (f:cP) (fuel:Nat) (ph:cU) (args:List V) (H:Heap) (k:K):R:=cP.rec (motive:=λ_=>R)
 (λg=>g args H k)
 (λps res c=>gj ps args FC λe=>eR c fuel ph e H (λe H=>xM res e H λl=>KM l λv=>k v H) λn e H=>Nat.rec (motive:=λ_=>R) (xM res e H λl=>KM l λv=>k v H) (λ_ _=>no 6) n) f
noncomputable def X9 (cp:RC->ah) (fuel:Nat) (ph:cU) (b:Nat) (args:List V) (H:Heap) (k:K):R:=
 dC H b λbl=>eZ bl λst j e ps asL bo=>Nat.rec (motive:=λ_=>R)
  (gj ps args e λe1=>eR (cp asL) fuel ph e1 H (λe2 H=>dC H b λbl=>eZ bl λst1 j1 e1 ps1 as1 bo1=>Nat.rec (motive:=λ_=>R) (da 0 H b (.loop 1 j1 e1 ps1 as1 bo1) λH=>eR (cp bo) fuel ph e2 H
   (λ_ H=>dC H b λbl=>eZ bl λ_ _ e' ps' as' bo'=>da 0 H b (.loop 0 0 e' ps' as' bo') λH=>k (.bool true) H)
   λn _ H=>dC H b λbl=>eZ bl λ_ _ e' ps' as' bo'=>da 0 H b (.loop 2 (WN n) e' ps' as' bo') λH=>k (.bool false) H) (λ_ _=>no 13) st1) (λ_ _ _=>no 11))
  (λ_ _=>no 12) st
noncomputable def JL (t:Nat->Option cP) (fuel:Nat) (ph:cU) (f:Nat) (args:List V) (H:Heap) (k:K):R:=au f λf=>Option.rec (motive:=λ_=>R) (no (100+f)) (λfn=>Vg fn fuel ph args H k) (t f)
noncomputable def aN (cp:RC->ah) (t:Nat->Option cP) (fuel:Nat) (depth:Nat):cU:=Nat.rec (motive:=λ_=>cU) (λ_ _ _ _=>no 7) (λ_ ih x args H k=>
 V.rec (motive_1:=λ_=>R) (motive_2:=λ_=>R) (λ_ _=>no 0) (λ_=>no 0) (λ_ _=>no 0) (λ_ _=>no 0) (no 0) (λ_ _ _ _ _=>no 0) (no 0) (λ_=>no 0) (no 0) (λf caps _=>Nat.rec (motive:=λ_=>R) (jO args caps λargs=>JL t fuel ih (Wf f 2) args H k) (λ_ _=>jO caps args λargs=>JL t fuel ih (Wf f 2) args H k) (Yq f 2)) (λb=>X9 cp fuel ih b args H k) (no 0) (λ_ _ _=>no 0) (no 0) (λ_ _=>no 0) (λ_ _=>no 0) (0:R) (λ_ _ _ _=>(0:R)) x) depth
noncomputable def H0:Heap:=.mk 0 0 .e
end Go.Ev
end
section
namespace Go.Ev
section
variable (P:Program)
def jz (fid:Nat) (fn:Func):Option cP:=match fn.body with
 | some c=>if fn.ntmps<=512 && fn.params.size+fn.nfree<=fn.ntmps then
  match lD P fn.ntmps fn.results.toList with
  | some r=>some (.code ((WX (fn.params.size+fn.nfree)).map bg) r (iv P fn.ntmps fid false c))
  | none=>none
  else none
 | none=>none
end
end Go.Ev
end
section
namespace Go.Ev
noncomputable def Me (sl sn:Nat) (l:List V):(Nat->Nat->R)->R:=List.rec (motive:=λ_=>(Nat->Nat->R)->R) (λk=>k 0 0)
 (λv r ih k=>ej 0 v λl n=>List.rec (motive:=λ_=>R) (k l n) (λ_ _ _=>ih λrl rn=>
  au (Yd l (Yd sl rl)) λtl=>au (Yd n (Yt (Yd sn (Yt rn (Yj 8 sl))) (Yj 8 l))) λtn=>k tl tn) r) l
noncomputable def qf (c b:Nat) (k:Nat->R):R:=au (YM4 (WC c 4) (Qt (WC 9937593612760466100516450665319420528403982636753068485404800763335476026940182181175496972418787619281442302519629725716261212251300561153615832085954560 (Yj 32 (Qt (YM4 c b) 15))) 4294967295)) k
noncomputable def vG (l:Nat):Nat->Nat->(Nat->R)->R:=Nat.rec (motive:=λ_=>Nat->Nat->(Nat->R)->R) (λ_ c k=>k c) (λ_ ih n c k=>au (Yq n 256) λb=>au (Wf n 256) λn'=>qf c b λc=>qf c (WC b 4) λc=>ih n' c k) l
end Go.Ev
end
section
namespace Go.Ev
def q8 {α:Type} (i:I8) (t:N8 α) (x:α):N8 α:=match t with
 | .mk a0 a1 a2 a3 a4 a5 a6 a7=>match i with
  | .i0=>.mk x a1 a2 a3 a4 a5 a6 a7 | .i1=>.mk a0 x a2 a3 a4 a5 a6 a7 | .i2=>.mk a0 a1 x a3 a4 a5 a6 a7 | .i3=>.mk a0 a1 a2 x a4 a5 a6 a7
  | .i4=>.mk a0 a1 a2 a3 x a5 a6 a7 | .i5=>.mk a0 a1 a2 a3 a4 x a6 a7 | .i6=>.mk a0 a1 a2 a3 a4 a5 x a7 | .i7=>.mk a0 a1 a2 a3 a4 a5 a6 x
def lk (s:Slot) (v:V) (e:Env):Env:=match s with
 | .mk a b c=>q8 a e (q8 b (p8 a e) (q8 c (p8 b (p8 a e)) v))
theorem RR {α} (i) (t) (k:α->R):g8 i t k=k (p8 i t):=by cases i<;>rfl
theorem T0 {α} (i) (t) (f) (k:N8 α->R):u8 i t f k=f (p8 i t) λx=>k (q8 i t x):=by cases i<;>rfl
theorem Mt {α} (i j) (t) (x:α):p8 i (q8 j t x)=if i=j then x else p8 i t:=by cases i<;>cases j<;>rfl
theorem dY (s) (e) (k):ik s e k=k (ae s e):=by
 cases s with
 | mk a b c=>show g8 a e (λt=>g8 b t λu=>g8 c u k)=_;rw [RR,RR,RR];rfl
theorem sW (s) (v) (e) (k):KZ s v e k=k (lk s v e):=by
 cases s with
 | mk a b c=>show u8 a e (λt k1=>u8 b t (λu k2=>u8 c u (λ_ k3=>k3 v) k2) k1) k=_;rw [T0,T0,T0];rfl
theorem fv (s s') (v) (e):ae s (lk s' v e)=if s=s' then v else ae s e:=by
 cases s with
 | mk a b c=>
  cases s' with
  | mk a' b' c'=>
   simp only [ae,lk,Mt]
   by_cases h1:a=a'
   .subst h1
    by_cases h2:b=b'
    .subst h2
     by_cases h3:c=c'
     .simp [Mt]
     .simp [h3,Mt]
    .simp [h2,Mt]
   simp_all
theorem Jx {m n} (hm:m<8) (hn:n<8) (h:d8 m=d8 n):m=n:=by
 rcases (by omega:m=0\/m=1\/m=2\/m=3\/m=4\/m=5\/m=6\/m=7) with rfl|rfl|rfl|rfl|rfl|rfl|rfl|rfl<;>
 rcases (by omega:n=0\/n=1\/n=2\/n=3\/n=4\/n=5\/n=6\/n=7) with rfl|rfl|rfl|rfl|rfl|rfl|rfl|rfl<;>first|rfl|cases h
theorem fO {m n} (hm:m<512) (hn:n<512) (h:bg m=bg n):m=n:=by
 injection h with h1 h2 h3
 have h1:=Jx (by omega) (by omega) h1
 have h2:=Jx (by omega) (by omega) h2
 have h3:=Jx (by omega) (by omega) h3
 omega
theorem TR.put {mu:M} {nt:Nat} {e:Env} {tmps:Array Value} (h:TR mu nt e tmps) {d:Nat} {v:V} {c:Value} (hd:d<nt) (hv:VR mu v c):
 TR mu nt (lk (bg d) v e) (tmps.setIfInBounds d c):=by
 refine ⟨by simpa using h.size,h.le,λt u ht=>?_,λt h1 h2=>by
  have hl:=h.le
  rw [fv,if_neg λe=>by have:=fO (by omega) (by omega) e;omega]
  exact h.rest t h1 h2⟩
 rw [fv]
 have hs:=h.size
 have hl:=h.le
 by_cases htd:t=d
 .subst htd
  rw [if_pos rfl]
  rw [Array.getElem?_setIfInBounds_self_of_lt (by omega)]at ht
  cases ht
  exact hv
 .rw [Array.getElem?_setIfInBounds_ne (Ne.symm htd)]at ht
  have hlt:t<tmps.size:=by
   rcases Yh t tmps.size with h|h
   .exact h
   .simp [Array.getElem?_eq_none h]at ht
  rw [if_neg λe=>htd (fO (by omega) (by omega) e)]
  exact h.get t u ht
theorem aw (n) (k):au n k=k n:=by cases n<;>rfl
theorem adA (t f):aF true t f=t:=rfl
theorem abO (t f):aF false t f=f:=rfl
theorem aQ {c} {t} {n} (h:aF c t (no n)=1):c=true/\t=1:=by
 cases c
 .exact (av h).elim
 .exact ⟨rfl,h⟩
theorem bP {c} {t f} (h:aF c t f=1):(c=true/\t=1)\/(c=false/\f=1):=by
 cases c
 .exact YE ⟨rfl,h⟩
 .exact YG ⟨rfl,h⟩
theorem cI {a b:Nat} (h:YM a b=true):a=b:=Nat.eq_of_beq_eq_true h
theorem cA {a b:Nat} (h:YX a b=true):a<=b:=Qm h
theorem eO {a b} (h:Yx a b=true):a<b:=Qm h
theorem dK {id} {x} {k} (h:cC id x k=1):(∃ kd n,x = .int kd n/\k kd n=1):=by
 cases x<;>first|exact (av h).elim|exact ⟨_,_,rfl,h⟩
theorem mR {id} {x} {k} (h:eV id x k=1):(∃ b,x = .bool b/\k b=1):=by
 cases x<;>first|exact (av h).elim|exact ⟨_,rfl,h⟩
theorem eD {id} {x} {k} (h:ej id x k=1):(∃ l n,x = .str l n/\k l n=1):=by
 cases x<;>first|exact (av h).elim|exact ⟨_,_,rfl,h⟩
theorem fU {id} {x} {k} (h:dQ id x k=1):(∃ b o,x = .ptr b o/\k b o=1):=by
 cases x<;>first|exact (av h).elim|exact ⟨_,_,rfl,h⟩
theorem OK {id} {x} {k} (h:lY id x k=1):(∃ b o l c s,x = .slice b o l c s/\k b o l c s=1):=by
 cases x<;>first|exact (av h).elim|exact ⟨_,_,_,_,_,rfl,h⟩
theorem fP {id} {x} {k} {z} (h:bG id x k z=1):(∃ b o l c s,x = .slice b o l c s/\k b o l c s=1)\/(x = .az/\z=1):=by
 cases x<;>first|exact (av h).elim|exact YG ⟨_,_,_,_,_,rfl,h⟩|exact YE ⟨rfl,h⟩
theorem MG {id} {x} {k} (h:Iz id x k=1):(∃ b,x = .map b/\k b=1):=by
 cases x<;>first|exact (av h).elim|exact ⟨_,rfl,h⟩
theorem IA {id} {x} {k} {z} (h:qS id x k z=1):(∃ b,x = .map b/\k b=1)\/(x = .yg/\z=1):=by
 cases x<;>first|exact (av h).elim|exact YG ⟨_,rfl,h⟩|exact YE ⟨rfl,h⟩
theorem Iy {id} {x} {k} (h:yQ id x k=1):(∃ f l,x = .func f l/\k f l=1):=by
 cases x<;>first|exact (av h).elim|exact ⟨_,_,rfl,h⟩
theorem qA {id} {x} {k} (h:iS id x k=1):(∃ l,x = .agg l/\k l=1):=by
 cases x<;>first|exact (av h).elim|exact ⟨_,rfl,h⟩
theorem abw {id t} {x} {k} (h:vIf id t x k=1):∃ v,x = .iface t v/\k v=1:=by
 cases x<;>first|exact (av h).elim|skip
 have h':=h
 rcases bP h' with ⟨h1,h2⟩|⟨_,h2⟩
 .simp_all
 .exact (av h2).elim
theorem Xt {id} {x} {k} (h:zO id x k=1):(∃ l,x = .cH l/\k l=1):=by
 cases x<;>first|exact (av h).elim|exact ⟨_,rfl,h⟩
theorem tV {id}:∀ {l} {i} {k},nth id l i k=1->∃ v,l[i]? = some v/\k v=1
 | [],_,_,h=>(av h).elim
 | v :: l,0,_,h=>⟨v,rfl,h⟩
 | _ :: l,i+1,k,h=>by
  have h':nth id l i k=1:=h
  obtain ⟨v,h1,h2⟩:=tV h'
  simp_all
theorem kW {id}:∀ {l} {n} {k},takeN id l n k=1->n<=l.length/\k (l.take n)=1
 | [],0,_,h=>⟨YB _,h⟩
 | [],_+1,_,h=>(av h).elim
 | v :: l,0,_,h=>⟨Yf _,h⟩
 | v :: l,n+1,k,h=>by
  have h':takeN id l n (λr=>k (v :: r))=1:=h
  obtain ⟨h1,h2⟩:=kW h'
  simp_all
theorem mw {id}:∀ {l} {n} {k},fI id l n k=1->n<=l.length/\k (l.drop n)=1
 | [],0,_,h=>⟨YB _,h⟩
 | [],_+1,_,h=>(av h).elim
 | v :: l,0,_,h=>⟨Yf _,h⟩
 | v :: l,n+1,k,h=>by
  have h':fI id l n k=1:=h
  obtain ⟨h1,h2⟩:=mw h'
  simp_all
theorem fA:∀ (l m) (k),jO l m k=k (l ++ m)
 | [],_,_=>rfl
 | v :: l,m,k=>by
  show jO l m (λr=>k (v :: r))=_
  rw [fA];rfl
theorem CD {id}:∀ {m l} {k},over id m l k=1->m.length<=l.length/\k (m ++ l.drop m.length)=1
 | [],l,k,h=>⟨Yf _,by have h':k l=1:=h;simp_all⟩
 | x :: m,[],_,h=>(av h).elim
 | x :: m,y :: l,k,h=>by
  have h':over id m l (λq=>k (x :: q))=1:=h
  obtain ⟨h1,h2⟩:=CD h'
  simp_all
theorem yH {id} {m}:∀ {l} {i} {k},setAt id m l i k=1->i+m.length<=l.length/\k (l.take i ++ (m ++ l.drop (i+m.length)))=1
 | [],0,k,h=>by
  have h':over id m [] k=1:=h
  obtain ⟨h1,h2⟩:=CD h'
  simp_all
 | [],_+1,_,h=>(av h).elim
 | v :: l,0,k,h=>by
  have h':over id m (v :: l) k=1:=h
  obtain ⟨h1,h2⟩:=CD h'
  simp_all
 | v :: l,i+1,k,h=>by
  have h':setAt id m l i (λr=>k (v :: r))=1:=h
  obtain ⟨h1,h2⟩:=yH h'
  grind
theorem jR:∀ l:List V,fD l=l.length
 | []=>rfl
 | _ :: l=>by show WN (fD l)=_;rw [jR l];rfl
theorem CU (m):∀ (n) (k),W7 m n k=k (ig n m)
 | 0,_=>rfl
 | n+1,k=>by
  show W7 m n (λr=>jO m r k)=_
  rw [CU m n,fA];rfl
theorem xP {id} {x} {k} (h:dZ id x k=1):x.one=true/\k=1:=by
 cases x<;>first|exact (av h).elim|exact ⟨rfl,h⟩
theorem ft {id}:∀ {l} {k},bu id l k=1->(∀ v ∈ l,v.one=true)/\k=1
 | [],_,h=>⟨λ_ hv=>absurd hv (by simp),h⟩
 | v :: l,k,h=>by
  have h':dZ id v (bu id l k)=1:=h
  obtain ⟨h1,h2⟩:=xP h'
  obtain ⟨h3,h4⟩:=ft h2
  simp_all
theorem OG {id} {x} {k} (h:dO id x k=1):(∃ l,x = .agg l/\k l=1)\/(x.one=true/\k [x]=1):=by
 cases x<;>first|exact (av h).elim|exact YG ⟨_,rfl,h⟩|exact YE ⟨rfl,h⟩
theorem aK:∀ (l n),(aB l n).length=l
 | 0,_=>rfl
 | l+1,n=>by simp [aB,aK l]
theorem rE:∀ (l n i),i<l->(aB l n)[i]? = some (UInt8.ofNat (n/256 ^ i%256))
 | 0,_,_,h=>absurd h (by omega)
 | l+1,n,0,_=>by simp [aB]
 | l+1,n,i+1,h=>by
  simp only [aB,Qf]
  rw [rE l (n/256) i (by omega),YH4,QX,Wo]
theorem toNat_byte (x):(UInt8.ofNat (x%256)).toNat=x%256:=by simp
theorem nM:∀ (l n m),n%256 ^ l=m%256 ^ l->aB l n=aB l m
 | 0,_,_,_=>rfl
 | l+1,n,m,h=>by
  rw [QX]at h
  have h1:=by
   have:=congrArg (· % 256) h
   simpa [Nat.mod_mul_left_mod] using this
  have h2:n/256%256 ^ l=m/256%256 ^ l:=by
   rw [Wo]at h
   rw [<- YD4,<- YD4,h]
  simp only [aB,h1,nM l _ _ h2]
theorem fy:∀ (a b n m),n<256 ^ a->aB (a+b) (n+256 ^ a*m)=aB a n ++ aB b m
 | 0,b,n,m,h=>by
  have:n=0:=by omega
  subst this
  simp [aB]
 | a+1,b,n,m,h=>by
  rw [QX]at h ⊢
  have e1:(n+256 ^ a*256*m)%256=n%256:=by grind
  have e2:(n+256 ^ a*256*m)/256=n/256+256 ^ a*m:=by grind
  rw [show a+1+b=(a+b)+1 by omega]
  simp only [aB,e1,e2,YL]
  rw [fy a b (n/256) m (YC4 (by omega))]
theorem jo:∀ (i l n),i<=l->(aB l n).drop i=aB (l-i) (n/256 ^ i)
 | 0,l,n,_=>by simp
 | i+1,0,n,h=>absurd h (by omega)
 | i+1,l+1,n,h=>by
  simp only [aB,List.drop_succ_cons]
  rw [jo i l (n/256) (by omega),YH4,QX,Wo 256,show l+1-(i+1)=l-i by omega]
theorem jq:∀ (i l n),i<=l->(aB l n).take i=aB i n
 | 0,l,n,_=>by rfl
 | i+1,0,n,h=>absurd h (by omega)
 | i+1,l+1,n,h=>by simp [aB,jq i l (n / 256) (by omega)]
theorem HY:∀ l:Nat,aB l 0=YZ l 0
 | 0=>rfl
 | l+1=>by simp [aB,HY l,List.replicate_succ]
theorem jA:∀ l:List UInt8,enc l<256 ^ l.length
 | []=>by simp [enc]
 | x :: l=>by
  have:=jA l
  have hx:=x.toNat_lt
  simp only [enc,YH,QX]
  omega
theorem fN:∀ l:List UInt8,aB l.length (enc l)=l
 | []=>rfl
 | x :: l=>by
  have hx:=x.toNat_lt
  simp only [enc,YH,aB]
  rw [show (x.toNat+256*enc l)%256=x.toNat by omega,show (x.toNat+256*enc l)/256=enc l by omega,fN l]
  simp
theorem nv:∀ (l n),n<256 ^ l->enc (aB l n)=n
 | 0,n,h=>by simp at h;simp [aB,enc,h]
 | l+1,n,h=>by
  simp only [aB,enc,toNat_byte]
  rw [nv l (n/256) (YC4 (by omega))]
  omega
theorem rF {l m n} (hm:m<256 ^ l) (hn:n<256 ^ l) (h:aB l m=aB l n):m=n:=by
 rw [<- nv l m hm,h,nv l n hn]
def eN (x:UInt8):V:=.int 4 x.toNat
theorem pP {id}:∀ {l} {k},iB id l k=1->∃ n,k l.length n=1/\(∀ v ∈ l,∃ x,v = .int 4 x)/\((∀ v ∈ l,∀ x,v = .int 4 x->x<256)->l=(aB l.length n).map eN/\n<256 ^ l.length)
 | [],k,h=>⟨0,h,λ_ hv=>absurd hv (by simp),λ_=>⟨rfl,by simp⟩⟩
 | v :: l,k,h=>by
  have h':cC id v (λkd x=>aF (YM kd 4) (iB id l λlen n=>au (Yd x (Yj 256 n)) λn'=>au (WN len) λlen'=>k len' n') (no _))=1:=h
  obtain ⟨kd,x,rfl,h1⟩:=dK h'
  obtain ⟨h2,h3⟩:=aQ h1
  have:=cI h2
  subst this
  obtain ⟨n,h4,h40,h5⟩:=pP h3
  rw [aw,aw]at h4
  refine ⟨_,h4,λv hv=>(Yb.1 hv).elim (λe=>⟨_,e⟩) (h40 v),λha=>?_⟩
  obtain ⟨h6,h7⟩:=h5 λv hv=>ha v (YI _ hv)
  have hlt:=ha _ (YJ ..) _ rfl
  simp only [YH,aB,QX]
  have e1:(x.add (Yj 256 n))%256=x:=by grind
  have e2:(x.add (Yj 256 n))/256=n:=by grind
  rw [e1,e2]
  refine ⟨?_,by omega⟩
  simp only [YP,eN]
  rw [<- h6]
  simp [WE hlt]
theorem iR:∀ (len n) (k),qz len n k=k ((aB len n).map eN)
 | 0,_,_=>rfl
 | len+1,n,k=>by
  show au (Yq n 256) (λx=>au (Wf n 256) λn'=>qz len n' λr=>k (.int 4 x :: r))=_
  rw [aw,aw,iR]
  simp only [aB,YP,eN,toNat_byte]
  rfl
end Go.Ev
end
section
namespace Go.Ev
open Go.RowKit
theorem aV (H) (b) (k):dC H b k=k (H.get b):=by rfl
theorem mV {id} {bl} {kc} {kb} (h:uo id bl kc kb=1):(∃ l,bl = .cells l/\kc l=1)\/∃ len n,bl = .bytes len n/\kb len n=1:=by
 cases bl<;>first|exact (av h).elim|exact YG ⟨_,rfl,h⟩|exact YE ⟨_,_,rfl,h⟩
theorem vE {id} {bl} {k} (h:sc id bl k=1):∃ es,bl = .map es/\k es=1:=by
 cases bl<;>first|exact (av h).elim|exact ⟨_,rfl,h⟩
theorem mc {bl} {k} (h:eZ bl k=1):∃ st j e ps asL bo,bl = .loop st j e ps asL bo/\k st j e ps asL bo=1:=by
 cases bl<;>first|exact (av h).elim|exact ⟨_,_,_,_,_,_,rfl,h⟩
structure O0 (H:Heap) (b:Nat) (x:eK) (H':Heap):Prop where
 lt:b<H.n
 n:H'.n=H.n
 bz:H'.bz<=H.bz
 wb:H'.bz<=b
 get:H'.get b=x
 vU:∀ j,j≠b->H'.get j=H.get j
theorem ib {id} {H} {b} {x} {k} (h:da id H b x k=1):∃ H',k H'=1/\O0 H b x H':=by
 cases H with
 | mk n bz t=>
  have h':=h
  obtain ⟨h1,h2⟩:=aQ h'
  obtain ⟨t',h3,h4,h5⟩:=HT.K0 _ _ _ h2
  rcases bP h3 with ⟨h6,h7⟩|⟨h6,h7⟩
  .exact ⟨_,h7,eO h1,rfl,YB _,cA h6,h4,h5⟩
  .have:b<bz:=by
    rcases Yh b bz with h|h
    .omega
    .rw [WV h]at h6;cases h6
   exact ⟨_,h7,eO h1,rfl,QY this,YB _,h4,h5⟩
structure oE (H:Heap) (x:eK) (H':Heap):Prop where
 n:H'.n=H.n+1
 bz:H'.bz=H.bz
 get:H'.get H.n=x
 vU:∀ j,j≠H.n->H'.get j=H.get j
theorem dH {H} {x} {k} (h:cB H x k=1):∃ H',k H.n H'=1/\oE H x H':=by
 cases H with
 | mk n bz t=>
  have h':=h
  obtain ⟨t',h3,h4,h5⟩:=HT.K0 _ _ _ h'
  exact ⟨_,h3,rfl,rfl,h4,h5⟩
def rowOf:eK->Option (List V)
 | .cells l=>some l
 | .bytes len n=>some ((aB len n).map eN)
 | _=>none
theorem abM (x):(eN x).one=true:=rfl
theorem toI_u8 (x) (h:x<256):toI .u8 x=x:=by
 show IntKind.u8.wrap (x:Int)=x
 simp [IntKind.wrap,IntKind.bits,IntKind.signed]
 omega
theorem vD (mu) (x):VR mu (eN x) (.int .u8 x.toNat):=by
 have h:=x.toNat_lt
 refine ⟨?_,?_,by omega⟩
 .show Value.int .u8 _=Value.int .u8 (toI .u8 _)
  rw [toI_u8 _ (by omega)]
 .show _<2 ^ IntKind.u8.bits
  simp [IntKind.bits];omega
theorem gO {bl} {row} (h:rowOf bl=some row):bl.alive/\bl ≠ .mark:=by
 cases bl<;>simp [rowOf]at h<;>exact ⟨trivial,by simp⟩
theorem Xb {P} {mu} {bl} {row} {o} (h:rowOf bl=some row) (hb:BR P mu bl o):∃ c e fr,o = .cells c e fr/\ju mu row c fr:=by
 cases bl with
 | cells l=>simp only [rowOf,Option.some.injEq]at h;obtain ⟨c,e,fr,h1,h2,_⟩:=hb;grind
 | bytes len n=>
  simp only [rowOf,Option.some.injEq]at h
  subst h
  obtain ⟨c,e,fr,h1,⟨_,h2⟩,h3⟩:=hb
  refine ⟨c,e,fr,h1,λi v hi=>?_,h3⟩
  simp only [Yg,Ye]at hi
  obtain ⟨x,hx,rfl⟩:=hi
  exact ⟨rfl,_,h2 i x hx,vD mu x⟩
 | _=>simp [rowOf]at h
section
variable {P:Program} {base:Nat} {w0 w w':World} {rho:Nat->Option Nat} {H H':Heap}
theorem PR.row (h:PR P base w0 rho H w) {b c:Nat} {row:List V} (hr:rho b=some c) (hrow:rowOf (H.get b)=some row):
 ∃ cs e fr,w.heap[c]? = some (.cells cs e fr)/\ju (mu rho H w) row cs fr:=by
 obtain ⟨o,h1,h2⟩:=h.db b c hr
 obtain ⟨cs,e,fr,rfl,h3⟩:=Xb hrow h2
 exact ⟨cs,e,fr,h1,h3⟩
theorem PR.aeJ (h:PR P base w0 rho H w) {b c:Nat} {l:List V} (hr:rho b=some c) (hb:H.get b = .cells l) {cs:Array Value} {e:TypeId} {fr:Nat × Nat} (hw:w.heap[c]? = some (.cells cs e fr)):¬ (fr.1<=cs.size/\cs.size<fr.2):=by
 obtain ⟨o,h1,h2⟩:=h.db b c hr
 rw [hb]at h2
 obtain ⟨c',e',fr',rfl,_,h3⟩:=h2
 rw [hw]at h1
 cases h1
 exact h3
theorem PR.lX (h:PR P base w0 rho H w) {b c:Nat} {row:List V} (hm:(mu rho H w).b b c) (hrow:rowOf (H.get b)=some row):rho b=some c:=hm.2 (gO hrow).1
theorem tW {v} {c} {m} (h:VR m v c) (ho:v.one=true):c.oneCell'=true:=by
 obtain ⟨h1,h2⟩:=h.one ho
 cases c<;>first|rfl|rfl|simp_all
theorem PR.cell (h:PR P base w0 rho H w) {b c i:Nat} {row:List V} {v:V} (hr:rho b=some c) (hrow:rowOf (H.get b)=some row) (hi:row[i]? = some v):
 ∃ cv,w.cell? ⟨c,i,none⟩=some cv/\VR (mu rho H w) v cv/\v.one=true:=by
 obtain ⟨cs,e,fr,h1,h2,h3⟩:=h.row hr hrow
 obtain ⟨h4,cv,h5,h6⟩:=h2 i v hi
 exact ⟨cv,by simp [World.cell?,h1,h5],h6,h4⟩
theorem ju.le {mu:M} {row:List V} {cs:Array Value} {fr:Nat × Nat} (h:ju mu row cs fr):row.length<=cs.size:=by
 rcases Yh cs.size row.length with hlt|hge
 .obtain ⟨_,cv,h2,_⟩:=h.1 cs.size _ (YA hlt)
  simp at h2
 .exact hge
theorem ju.vrs {mu:M} {row:List V} {cs:Array Value} {fr:Nat × Nat} (h:ju mu row cs fr) {o n:Nat} (hn:o+n<=row.length):cm mu ((row.drop o).take n) ((cs.toList.drop o).take n):=by
 have hle:=h.le
 refine cm.pO (by simp;omega) λi v c h1 h2=>?_
 rw [Yu]at h1 h2
 split at h1
 .rename_i hi
  rw [if_pos hi]at h2
  rw [Yy]at h1 h2
  obtain ⟨_,cv,h3,h4⟩:=h.1 _ _ h1
  rw [Yw]at h2
  rw [h3]at h2
  cases h2
  exact h4
 .cases h1
theorem PR.cells (h:PR P base w0 rho H w) {b c o n:Nat} {row:List V} (hr:rho b=some c) (hrow:rowOf (H.get b)=some row) (hn:o+n<=row.length):
 ∃ cs:List Value,(loadCells ⟨c,o,none⟩ n).run P w = .ok cs.toArray w/\cm (mu rho H w) ((row.drop o).take n) cs/\cs.length=n:=by
 obtain ⟨cs,e,fr,h1,h2⟩:=h.row hr hrow
 have hle:=h2.le
 refine ⟨(cs.toList.drop o).take n,?_,h2.vrs hn,by simp;omega⟩
 have hl:((cs.toList.drop o).take n).length=n:=by simp;omega
 have:=run_loadCells_list (P:=P) w ⟨c,o,none⟩ ((cs.toList.drop o).take n) (λj v hv=>by
  rw [Addr.add_lit]
  rw [Yu]at hv
  split at hv
  .rw [Yy,Yw]at hv
   simp [World.cell?,h1,hv]
  .cases hv)
 rwa [hl]at this
theorem ij {g o} {t} {fr}:∀ (vs) (i) (cur) (w),w.heap[g]? = some (.cells cur t fr)->o+i+vs.length<=cur.size->(∀ v ∈ vs,v.oneCell'=true)->
 (∀ j,j<cur.size->¬ (fr.1<=j/\j<fr.2))->
 ∃ w' cur',(storeCells ⟨g,o,none⟩ vs i).run P w = .ok () w'/\w'.heap[g]? = some (.cells cur' t fr)/\cur'.size=cur.size/\(∀ j:Nat,cur'[j]? = if o+i<=j/\j<o+i+vs.length then vs[j-(o+i)]? else cur[j]?)/\
  (∀ j,j≠g->w'.heap[j]? = w.heap[j]?)/\w'.heap.size=w.heap.size/\IY w w'
 | [],i,cur,w,hg,_,_,_=>⟨w,cur,rfl,hg,rfl,λj=>by grind,λ_ _=>rfl,rfl,rfl,rfl,rfl⟩
 | v :: vs,i,cur,w,hg,hl,hv,hfr=>by
  simp only [YH]at hl
  have hlt:o+i<cur.size:=by omega
  have hcell:w.cell? ⟨g,o+i,none⟩=some cur[o+i]:=by simp [World.cell?,hg,hlt]
  have hfz:w.frozen? ⟨g,o+i,none⟩=false:=by
   have:=hfr (o+i) hlt
   simp only [World.frozen?,hg]
   simp_all
  have hg':(w.setCell ⟨g,o+i,none⟩ v).heap[g]? = some (.cells (cur.setIfInBounds (o+i) v) t fr):=by
   simp [World.setCell,QM,hg]
  obtain ⟨w',cur',h1,h2,h3,h4,h5,h6,h7⟩:=ij (o:=o) vs (i+1) _ _ hg' (by simp;omega) (λu hu=>hv u (YI _ hu)) (by simp_all)
  refine ⟨w',cur',?_,h2,by simp_all,λj=>?_,λj hj=>?_,?_,?_⟩
  .simp only [storeCells,Sem.run_bind,Addr.add_lit,run_store P w _ v .plain (hv v (YJ ..)),hcell,hfz]
   simp_all
  .grind
  .rw [h5 j hj]
   simp [World.setCell,QM,Ne.symm hj]
  .simp_all
  .exact ⟨h7.os,h7.tape,h7.output⟩
theorem x9 {id b off} {k} (h:nV id H b off k=1):∃ row v,rowOf (H.get b)=some row/\row[off]? = some v/\k v=1:=by
 unfold nV at h
 rw [aV]at h
 rcases mV h with ⟨l,hb,h1⟩|⟨len,n,hb,h1⟩
 .obtain ⟨v,h2,h3⟩:=tV h1
  exact ⟨l,v,by rw [hb];rfl,h2,h3⟩
 .obtain ⟨h2,h3⟩:=aQ h1
  have hlt:=eO h2
  rw [aw]at h3
  refine ⟨_,eN (UInt8.ofNat (n/256 ^ off%256)),by rw [hb];rfl,by rw [Yg,rE _ _ _ hlt];rfl,?_⟩
  have e:Qt (WC n (Yj 8 off)) 255=n/256 ^ off%256:=by
   show (n >>> (8*off)) &&& 255=_
   rw [WG,QS,show (255:Nat)=2 ^ 8-1 by rfl,QO]
  rw [e]at h3
  simpa [eN] using h3
theorem pD {id b off n} {k} (h:ec id H b off n k=1):∃ row,rowOf (H.get b)=some row/\off+n<=row.length/\k ((row.drop off).take n)=1:=by
 unfold ec at h
 rw [aV]at h
 rcases mV h with ⟨l,hb,h1⟩|⟨len,m,hb,h1⟩
 .obtain ⟨h2,h3⟩:=mw h1
  obtain ⟨h4,h5⟩:=kW h3
  refine ⟨l,by rw [hb];rfl,by grind,h5⟩
 .obtain ⟨h2,h3⟩:=aQ h1
  have hle:off+n<=len:=cA h2
  rw [iR]at h3
  refine ⟨_,by rw [hb];rfl,by simpa [aK] using hle,?_⟩
  have e:WC m (Yj 8 off)=m/256 ^ off:=by
   show m >>> (8*off)=_
   rw [WG,QS]
  rw [e]at h3
  rw [<- YC3,<- Qu,jo _ _ _ (by omega),jq _ _ _ (by omega)]
  omega
def nW:eK->Option (List V)
 | .view l=>some l
 | bl=>rowOf bl
theorem HH {bl} {row} (h:nW bl=some row):bl.alive:=by
 cases bl<;>simp [nW,rowOf]at h<;>trivial
theorem PR.agj (h:PR P base w0 rho H w) {b c:Nat} {row:List V} (hr:rho b=some c) (hrow:nW (H.get b)=some row):
 ∃ cs e fr,w.heap[c]? = some (.cells cs e fr)/\∀ (i:Nat) (v:V),row[i]? = some v->(v.one=true\/rowOf (H.get b)=some row)->v.one=true/\(∃ cv,cs[i]? = some cv/\VR (mu rho H w) v cv)/\¬ (fr.1<=i/\i<fr.2):=by
 by_cases ho:rowOf (H.get b)=some row
 .obtain ⟨cs,e,fr,h1,h2⟩:=h.row hr ho
  refine ⟨cs,e,fr,h1,λi v hi _=>?_⟩
  obtain ⟨h3,cv,h4,h5⟩:=h2.1 i v hi
  exact ⟨h3,⟨cv,h4,h5⟩,h2.2 i (YN.1 h4).1⟩
 .obtain ⟨o,h1,h2⟩:=h.db b c hr
  cases hb:H.get b with
  | view l=>
   rw [hb]at h2 hrow
   simp only [nW,Option.some.injEq]at hrow
   subst hrow
   obtain ⟨cs,e,fr,rfl,h3⟩:=h2
   exact ⟨cs,e,fr,h1,λi v hi hv=>by
    rcases hv with hv|hv
    .exact ⟨hv,h3 i v hi hv⟩
    .simp [rowOf]at hv⟩
  | _=>rw [hb]at hrow ho;exact absurd hrow ho
theorem PR.yC (h:PR P base w0 rho H w) {b c:Nat} {row:List V} (hm:(mu rho H w).b b c) (hrow:nW (H.get b)=some row):rho b=some c:=hm.2 (HH hrow)
theorem PR.Tg (h:PR P base w0 rho H w) {b c i:Nat} {row:List V} {v:V} (hr:rho b=some c) (hrow:nW (H.get b)=some row) (hi:row[i]? = some v) (ho:v.one=true\/rowOf (H.get b)=some row):
 ∃ cv,w.cell? ⟨c,i,none⟩=some cv/\VR (mu rho H w) v cv/\v.one=true/\w.frozen? ⟨c,i,none⟩=false:=by
 obtain ⟨cs,e,fr,h1,h2⟩:=h.agj hr hrow
 obtain ⟨h3,⟨cv,h4,h5⟩,h6⟩:=h2 i v hi ho
 exact ⟨cv,by simp [World.cell?,h1,h4],h5,h3,by simp only [World.frozen?,h1];simpa using h6⟩
theorem PR.KH (h:PR P base w0 rho H w) {b c o n:Nat} {row:List V} (hr:rho b=some c) (hrow:nW (H.get b)=some row) (hn:o+n<=row.length) (ho:(∀ v ∈ (row.drop o).take n,v.one=true)\/rowOf (H.get b)=some row):
 ∃ cs:List Value,(loadCells ⟨c,o,none⟩ n).run P w = .ok cs.toArray w/\cm (mu rho H w) ((row.drop o).take n) cs/\cs.length=n/\∀ (j:Nat) (cv:Value),cs[j]? = some cv->w.cell? ⟨c,o+j,none⟩=some cv/\cv.oneCell'=true/\w.frozen? ⟨c,o+j,none⟩=false:=by
 have key:∀ j,j<n->∃ (v:V) (cv:Value),row[o+j]? = some v/\w.cell? ⟨c,o+j,none⟩=some cv/\VR (mu rho H w) v cv/\cv.oneCell'=true/\w.frozen? ⟨c,o+j,none⟩=false:=λj hj=>by
  have hi:row[o+j]? = some row[o+j]:=YA (by omega)
  have ho':row[o+j].one=true\/rowOf (H.get b)=some row:=ho.imp (λh=>h _ (by
   refine YS (i:=j) ?_
   rw [Yu,if_pos hj,Yy]
   exact hi)) id
  obtain ⟨cv,a1,a2,a3,a4⟩:=h.Tg hr hrow hi ho'
  exact ⟨_,cv,hi,a1,a2,tW a2 a3,a4⟩
 let cs:List Value:=(WX n).map λj=>(w.cell? ⟨c,o+j,none⟩).getD undef
 have hcs:∀ (j:Nat) (cv:Value),cs[j]? = some cv->j<n/\w.cell? ⟨c,o+j,none⟩=some cv:=λj cv hj=>by
  have hlt:j<n:=by
   have:=(List.getElem?_eq_some_iff.1 hj).1
   simpa [cs] using this
  obtain ⟨v,cv',_,a1,_⟩:=key j hlt
  refine ⟨hlt,?_⟩
  simp only [cs,Yg,List.getElem?_range hlt,Option.map_some,a1,Yl,Option.some.injEq]at hj
  rw [a1,hj]
 have hl:cs.length=n:=by simp [cs]
 refine ⟨cs,?_,?_,hl,λj cv hj=>?_⟩
 .have:=run_loadCells_list (P:=P) w ⟨c,o,none⟩ cs (λj v hv=>by rw [Addr.add_lit];exact (hcs j v hv).2)
  rwa [hl]at this
 .refine cm.pO (by simp [cs];omega) λi v cv h1 h2=>?_
  obtain ⟨hi,h3⟩:=hcs i cv h2
  obtain ⟨v',cv',a1,a2,a3,_⟩:=key i hi
  rw [Yu,if_pos hi,Yy,a1]at h1
  cases h1
  rw [h3]at a2
  cases a2
  exact a3
 .obtain ⟨hj',h3⟩:=hcs j cv hj
  obtain ⟨v',cv',a1,a2,a3,a4,a5⟩:=key j hj'
  rw [h3]at a2
  cases a2
  exact ⟨h3,a4,a5⟩
theorem Ph {id} {bl} {kc} {kb} {kv} (h:bRd id bl kc kb kv=1):(∃ l,bl = .cells l/\kc l=1)\/(∃ len n,bl = .bytes len n/\kb len n=1)\/∃ l,bl = .view l/\kv l=1:=by
 cases bl<;>first|exact (av h).elim|exact YG ⟨_,rfl,h⟩|exact YE (YG ⟨_,_,rfl,h⟩)|exact YE (YE ⟨_,rfl,h⟩)
theorem AB {id} {v} {k} (h:dZ id v k=1):v.one=true/\k=1:=by
 cases v<;>first|exact (av h).elim|exact ⟨rfl,h⟩
theorem wG {id}:∀ {l} {k},bu id l k=1->(∀ v ∈ l,v.one=true)/\k=1
 | [],k,h=>⟨λ_ h=>absurd h (by simp),h⟩
 | v :: l,k,h=>by
  obtain ⟨h1,h2⟩:=AB (show dZ id v (bu id l k)=1 from h)
  obtain ⟨h3,h4⟩:=wG h2
  simp_all
theorem Th {id b off} {k} (h:My id H b off k=1):∃ row v,nW (H.get b)=some row/\row[off]? = some v/\(v.one=true\/rowOf (H.get b)=some row)/\k v=1:=by
 unfold My at h
 rw [aV]at h
 rcases Ph h with ⟨l,hb,h1⟩|⟨len,n,hb,h1⟩|⟨l,hb,h1⟩
 .obtain ⟨row,v,h2,h3,h4⟩:=x9 (id:=id) (by unfold nV;rw [aV,hb];exact h1)
  rw [hb]at h2
  exact ⟨row,v,by rw [hb];exact h2,h3,YE (by simp_all),h4⟩
 .obtain ⟨row,v,h2,h3,h4⟩:=x9 (id:=id) (by unfold nV;rw [aV,hb];exact h1)
  rw [hb]at h2
  exact ⟨row,v,by rw [hb];exact h2,h3,YE (by simp_all),h4⟩
 .obtain ⟨v,h2,h3⟩:=tV h1
  obtain ⟨h4,h5⟩:=AB h3
  exact ⟨l,v,by rw [hb];rfl,h2,YG h4,h5⟩
theorem KI {id b off n} {k} (h:Ht id H b off n k=1):∃ row,nW (H.get b)=some row/\off+n<=row.length/\((∀ v ∈ (row.drop off).take n,v.one=true)\/rowOf (H.get b)=some row)/\k ((row.drop off).take n)=1:=by
 unfold Ht at h
 rw [aV]at h
 rcases Ph h with ⟨l,hb,h1⟩|⟨len,m,hb,h1⟩|⟨l,hb,h1⟩
 .obtain ⟨row,h2,h3,h4⟩:=pD (by unfold ec;rw [aV,hb];exact h1)
  rw [hb]at h2
  exact ⟨row,by rw [hb];exact h2,h3,YE (by simp_all),h4⟩
 .obtain ⟨row,h2,h3,h4⟩:=pD (id:=id) (by unfold ec;rw [aV,hb];exact h1)
  rw [hb]at h2
  exact ⟨row,by rw [hb];exact h2,h3,YE (by simp_all),h4⟩
 .obtain ⟨h2,h3⟩:=mw h1
  obtain ⟨h4,h5⟩:=kW h3
  obtain ⟨h6,h7⟩:=wG h5
  exact ⟨l,by rw [hb];rfl,by grind,YG h6,h7⟩
def Bo (l:List V) (x:Nat):Prop:=l=(aB l.length x).map eN/\x<256 ^ l.length
def Bq (l:List V):Prop:=∀ v ∈ l,∀ x,v = .int 4 x->x<256
theorem xZ {id b off n} {k} (h:mH id H b off n k=1):∃ row x,rowOf (H.get b)=some row/\off+n<=row.length/\k x=1/\(∀ v ∈ (row.drop off).take n,∃ x,v = .int 4 x)/\(Bq ((row.drop off).take n)->Bo ((row.drop off).take n) x):=by
 unfold mH at h
 rw [aV]at h
 rcases mV h with ⟨l,hb,h1⟩|⟨len,m,hb,h1⟩
 .obtain ⟨h2,h3⟩:=mw h1
  obtain ⟨h4,h5⟩:=kW h3
  obtain ⟨x,h6,h60,h7⟩:=pP h5
  exact ⟨l,x,by rw [hb];rfl,by grind,h6,h60,h7⟩
 .obtain ⟨h2,h3⟩:=aQ h1
  have hle:off+n<=len:=cA h2
  rw [aw]at h3
  refine ⟨_,_,by rw [hb];rfl,by simpa [aK] using hle,h3,λv hv=>?_,λ_=>?_⟩
  .rw [<- YC3,<- Qu]at hv
   obtain ⟨y,_,rfl⟩:=List.mem_map.1 hv
   exact ⟨_,rfl⟩
  have e:Yq (WC m (Yj 8 off)) (YB1 256 n)=m/256 ^ off%256 ^ n:=by
   show (m >>> (8*off))%256 ^ n=_
   rw [WG,QS]
  rw [e]
  have hl:(((aB len m).map eN).drop off |>.take n).length=n:=by simp [aK];omega
  refine ⟨?_,by rw [hl];omega⟩
  rw [hl,<- YC3,<- Qu,jo _ _ _ (by omega),jq _ _ _ (by omega)]
  congr 1
  exact nM _ _ _ (by simp)
theorem VR.Vo {m:M} {x:Nat} {c:Value} (h:VR m (.int 4 x) c):x<256/\c = .int .u8 x:=by
 simp only [VR]at h
 obtain ⟨h1,h2,_⟩:=h
 have h3:x<256:=h2
 exact ⟨h3,h1.trans (by show Value.int .u8 (toI .u8 x)=_;rw [toI_u8 x h3])⟩
theorem cm.mem {m:M} {l:List V} {cs:List Value} (h:cm m l cs) {v:V} (hv:v ∈ l):∃ c ∈ cs,VR m v c:=by
 obtain ⟨i,hi⟩:=QT hv
 obtain ⟨c,h1,h2⟩:=h.get hi
 exact ⟨c,YS h1,h2⟩
theorem cm.small {m:M} {l:List V} {cs:List Value} (h:cm m l cs):Bq l:=λv hv x e=>by
 obtain ⟨c,_,h2⟩:=h.mem hv
 subst e
 exact h2.Vo.1
theorem zK {len x off ml mx:Nat} (hx:x<256 ^ len) (hm:mx<256 ^ ml) (hl:off+ml<=len):
 aB len (Yd (Yq x (YB1 256 off)) (Yt (Yd mx (Yt (WC x (Yj 8 (Yd off ml))) (Yj 8 ml))) (Yj 8 off)))
  = (aB len x).take off ++ (aB ml mx ++ (aB len x).drop (off+ml))/\
 Yd (Yq x (YB1 256 off)) (Yt (Yd mx (Yt (WC x (Yj 8 (Yd off ml))) (Yj 8 ml))) (Yj 8 off))<256 ^ len:=by
 have e1:WC x (Yj 8 (Yd off ml))=x/256 ^ (off+ml):=by
  show x >>> (8*(off+ml))=_
  rw [WG,QS]
 have e2:∀ y k,Yt y (Yj 8 k)=256 ^ k*y:=λy k=>by
  show y <<< (8*k)=_
  rw [Qg,QS,Wo]
 rw [e1,e2,e2]
 show aB len (x%256 ^ off+256 ^ off*(mx+256 ^ ml*(x/256 ^ (off+ml))))=_/\x%256 ^ off+256 ^ off*(mx+256 ^ ml*(x/256 ^ (off+ml)))<_
 have hp:0<256 ^ off:=Nat.pow_pos (by simp)
 have hmod:x%256 ^ off<256 ^ off:=QG _ hp
 have hd:=by
  apply YC4
  rw [<- YG0,show off+ml+(len-off-ml)=len by omega]
  omega
 constructor
 .have:=fy off (ml+(len-off-ml)) (x%256 ^ off) (mx+256 ^ ml*(x/256 ^ (off+ml))) hmod
  rw [show off+(ml+(len-off-ml))=len by omega]at this
  rw [this,fy ml _ _ _ hm,jq _ _ _ (by omega),jo _ _ _ hl,show len-(off+ml)=len-off-ml by omega]
  rw [nM off (x%256 ^ off) x (by simp)]
 .have h1:=by
   calc mx+256 ^ ml*(x/256 ^ (off+ml))<256 ^ ml+256 ^ ml*(x/256 ^ (off+ml)):=by omega
    _=256 ^ ml*(x/256 ^ (off+ml)+1):=by grind
    _<=256 ^ ml*256 ^ (len-off-ml):=Qr _ hd
  calc x%256 ^ off+256 ^ off*(mx+256 ^ ml*(x/256 ^ (off+ml)))<256 ^ off+256 ^ off*(mx+256 ^ ml*(x/256 ^ (off+ml))):=by omega
   _=256 ^ off*(mx+256 ^ ml*(x/256 ^ (off+ml))+1):=by grind
   _<=256 ^ off*(256 ^ ml*256 ^ (len-off-ml)):=Qr _ h1
   _=256 ^ len:=by rw [<- YG0,<- YG0];grind
theorem ju.TJ {mu:M} {row m:List V} {cs cs':Array Value} {ms:List Value} {fr:Nat × Nat} {o:Nat} (h:ju mu row cs fr) (hm:cm mu m ms) (h1:∀ v ∈ m,v.one=true) (hl:o+m.length<=row.length)
 (hsz:cs'.size=cs.size) (hg:∀ j:Nat,cs'[j]? = if o+0<=j/\j<o+0+ms.length then ms[j-(o+0)]? else cs[j]?):ju mu (row.take o ++ (m ++ row.drop (o+m.length))) cs' fr:=by
 refine ⟨λi v hi=>?_,by rw [hsz];exact h.2⟩
 have hml:=hm.length
 rw [hg]
 by_cases hi1:i<o
 .rw [Yp (by simp;omega),Yu,if_pos hi1]at hi
  rw [if_neg (by omega)]
  exact h.1 i v hi
 .rw [Ym (by simp;omega)]at hi
  rw [show (row.take o).length=o by simp;omega]at hi
  by_cases hi2:i-o<m.length
  .rw [Yp hi2]at hi
   rw [if_pos (by omega)]
   obtain ⟨c,h2,h3⟩:=hm.get hi
   exact ⟨h1 v (YS hi),c,by simpa using h2,h3⟩
  .rw [Ym (by omega),Yy,show o+m.length+(i-o-m.length)=i by omega]at hi
   rw [if_neg (by omega)]
   exact h.1 i v hi
theorem Dp {mm} {m} {ms} (hv:cm mm m ms) (hone:∀ v ∈ m,v.one=true):∀ u ∈ ms,u.oneCell'=true:=λu hu=>by
 obtain ⟨i,hi⟩:=QT hu
 have hlt:i<m.length:=by
  rw [<- hv.length]
  grind
 obtain ⟨c',h3,h4⟩:=hv.get (YA hlt)
 rw [hi]at h3
 cases h3
 exact tW h4 (hone _ (List.getElem_mem hlt))
theorem yJ {id b off} {m} {k} (h1:eJ id H b off m k=1):∀ v ∈ m,v.one=true:=by
 unfold eJ at h1
 rw [aV]at h1
 rcases mV h1 with ⟨l,hb,h2⟩|⟨len,x,hb,h2⟩
 .exact (ft h2).1
 .obtain ⟨mx,h3,h30,h4⟩:=pP h2
  exact λv hv=>by obtain ⟨x,rfl⟩:=h30 v hv;rfl
end
end Go.Ev
end
section
namespace Go.Ev
open Go.RowKit
abbrev WF (rd:Option Nat):Fence:={fn:=λ_=>True,depth:=none,alive:=false,round:=rd }
def ay (a:Arg) (e:Env):V:=match a with
 | .s s=>ae s e
 | .c v=>v
theorem aq (a) (e) (k):aG a e k=k (ay a e):=by
 cases a with
 | s s=>exact dY s e k
 | c v=>rfl
theorem ia:∀ (l) (e) (k),px l e k=k (l.map (ay · e))
 | [],_,_=>rfl
 | a :: l,e,k=>by
  show aG a e (λv=>px l e λr=>k (v :: r))=_
  rw [aq,ia];rfl
theorem ra {mu} {v} {u} (h:nh v=some u):VR mu u v/\u.one=true:=by
 unfold nh at h
 split at h
 .cases h;exact ⟨by rfl,rfl⟩
 .rename_i k n
  split at h
  .rename_i hw
   have hw':=by simpa using hw
   cases h
   refine ⟨?_,rfl⟩
   have hm0:0<=n%(2 ^ k.bits:Nat):=Int.emod_nonneg _ (by cases k<;>decide)
   have hm1:n%(2 ^ k.bits:Nat)<(2 ^ k.bits:Nat):=Int.emod_lt_of_pos _ (by omega)
   simp only [VR,dI]
   refine ⟨?_,?_,xU k⟩
   .congr 1
    show n=k.wrap _
    rw [Int.toNat_of_nonneg hm0]
    conv=>lhs;rw [<- hw']
    unfold IntKind.wrap
    simp
   .unfold eg
    omega
  simp_all
 .cases h
  refine ⟨?_,rfl⟩
  simp only [VR]
  rw [fN]
  exact ⟨rfl,jA _⟩
 all_goals first|(cases h;exact ⟨by rfl,rfl⟩)|cases h
theorem mq {mu}:∀ {l} {r},consts l=some r->cm mu r l/\∀ u ∈ r,u.one=true
 | [],r,h=>by simp only [consts,Option.some.injEq]at h;subst h;exact ⟨by rfl,λ_ h=>absurd h (by simp)⟩
 | v :: l,r,h=>by
  simp only [consts]at h
  split at h
  .rename_i u r' h1 h2
   cases h
   obtain ⟨h3,h4⟩:=ra h1
   obtain ⟨h5,h6⟩:=mq h2
   exact ⟨by exact ⟨v,l,rfl,h3,h5⟩,λx hx=>(Yb.1 hx).elim (λe=>e ▸ h4) (h6 x)⟩
  simp_all
theorem tJ {mu} {v} {u} (h:BU v=some u):VR mu u v:=by
 unfold BU at h
 split at h
 .simp only [Ye]at h
  obtain ⟨r,h1,rfl⟩:=h
  exact ⟨_,rfl,(mq h1).1⟩
 .simp only [Ye]at h
  obtain ⟨r,h1,rfl⟩:=h
  exact ⟨_,rfl,(mq h1).1⟩
 .exact (ra h).1
theorem kD {mu} {nt} {e} {a:Act} {x} {ar} (ht:TR mu nt e a.tmps) (h:aH nt x=some ar):VR mu (ay ar e) (a.eval x):=by
 unfold aH at h
 split at h
 .rename_i t
  split at h
  .cases h
   have hs:=ht.size
   have hlt':t<a.tmps.size:=by simp_all
   have hex:=Array.getElem?_eq_getElem hlt'
   have:=ht.get t _ hex
   simpa [ay,Act.eval,hex] using this
  simp_all
 .simp only [Ye]at h
  obtain ⟨u,h1,rfl⟩:=h
  exact tJ h1
 .cases h
  simp only [ay,Act.eval,VR]
  exact ⟨#[],by simp,by rfl⟩
 simp_all
def OR (mu:M) (nt:Nat) (e:Env) (a:Act) (o:Oper):Prop:=∀ x ∈ o.op.operands,∀ ar,aH nt x=some ar->VR mu (ay ar e) (a.eval x)
theorem TR.or {mu:M} {nt:Nat} {e:Env} {a:Act} (h:TR mu nt e a.tmps) (o:Oper):OR mu nt e a o:=λ_ _ _ h1=>kD h h1
def Left (P:Program) (base:Nat) (w0:World) (rho:Nat->Option Nat) (H:Heap) (w:World) (v:V) (H':Heap) (cv:Value) (w':World):Prop:=
 ∃ rho',VR (mu rho' H' w') v cv/\PR P base w0 rho' H' w'/\Ext rho H w rho' H' w'
def fq (P:Program) (nt:Nat) (o:Oper) (e:Env) (H:Heap) (v:V) (H':Heap):Prop:=
 ∀ (rd:Option Nat) (base:Nat) (w0:World) (rho:Nat->Option Nat) (w:World) (a:Act),PR P base w0 rho H w->OR (mu rho H w) nt e a o->
  o.wpIn (WF rd) 0 P a w (λa' w'=>∃ cv,a'=a.put o.dst cv/\Left P base w0 rho H w v H' cv w') (λ_ _ _=>False)
def FSp (P:Program) (x:V) (args:List V) (H:Heap) (v:V) (H':Heap):Prop:=
 ∀ (rd:Option Nat) (base:Nat) (w0:World) (rho:Nat->Option Nat) (w:World) (cx:Value) (cargs:Array Value),PR P base w0 rho H w->VR (mu rho H w) x cx->cm (mu rho H w) args cargs.toList->
  ∀ (o:Oper) (a:Act),o.uponIn (WF rd) 0 P a (λa' w'=>∃ cv,a'=a.put o.dst cv/\Left P base w0 rho H w v H' cv w') (λ_ _ _=>False) ((do let d <- Deferred.ofValue cx cargs;invoke d.target d.args:Sem Next).run P w)
def iu (P:Program) (f:FuncId) (args:List V) (H:Heap) (v:V) (H':Heap):Prop:=
 ∀ (base:Nat) (w0:World) (rho:Nat->Option Nat) (w:World) (cargs:Array Value),PR P base w0 rho H w->cm (mu rho H w) args cargs.toList->
  (callFunc f cargs).run P w = .ok (.enter f cargs) w/\CallsIn (WF none) 0 P f cargs w λe w'=>∃ cv,e = .returned cv/\Left P base w0 rho H w v H' cv w'
def FSq (P:Program) (x:V) (args:List V) (H:Heap) (v:V) (H':Heap):Prop:=FSp P x args H v H'/\∀ f caps,x = .func (2*f) caps->iu P f (args ++ caps) H v H'
def iY (P:Program) (ph:cU):Prop:=∀ x args H k,ph x args H k=1->∃ v H',FSq P x args H v H'/\k v H'=1
theorem iD (P) (o:Oper) (a:Act) (w) (rd):∀ f,o.about P w a.eval=some f->(WF rd).fn f:=λ_ _=>trivial
theorem semAt_eq {o} {rd} {r} (h:∀ c,o.op ≠ .defer c):o.semAt rd r=execOp r o:=by
 unfold Oper.semAt
 simp_all
theorem fq.of_run {P:Program} {nt:Nat} {o:Oper} {e:Env} {H H':Heap} {v:V} (hnd:∀ c,o.op ≠ .defer c)
 (h:∀ (base:Nat) (w0:World) (rho:Nat->Option Nat) (w:World) (a:Act),PR P base w0 rho H w->OR (mu rho H w) nt e a o->∃ cv w',(execOp a.eval o).run P w = .ok (.value cv) w'/\Left P base w0 rho H w v H' cv w'):fq P nt o e H v H':=by
 intro rd base w0 rho w a hp ho
 obtain ⟨cv,w',h1,h2⟩:=h base w0 rho w a hp ho
 refine ⟨iD P o a w rd,?_⟩
 rw [semAt_eq hnd,h1]
 exact ⟨cv,rfl,h2⟩
theorem fq.Cz {P:Program} {nt:Nat} {o:Oper} {e:Env} {H H':Heap} (hnd:∀ c,o.op ≠ .defer c)
 (h:∀ (base:Nat) (w0:World) (rho:Nat->Option Nat) (w:World) (a:Act),PR P base w0 rho H w->OR (mu rho H w) nt e a o->∃ w',(execOp a.eval o).run P w = .ok .skip w'/\∃ rho',PR P base w0 rho' H' w'/\Ext rho H w rho' H' w'):fq P nt o e H (.cH []) H':=by
 intro rd base w0 rho w a hp ho
 obtain ⟨w',h1,rho',h2,h3⟩:=h base w0 rho w a hp ho
 refine ⟨iD P o a w rd,?_⟩
 rw [semAt_eq hnd,h1]
 exact ⟨undef,rfl,rho',by simp only [VR];exact ⟨#[],rfl,by simp only [cm]⟩,h2,h3⟩
theorem fq.bH {P:Program} {nt:Nat} {o:Oper} {e:Env} {H:Heap} {v:V} (hnd:∀ c,o.op ≠ .defer c)
 (h:∀ (m:M) (w:World) (a:Act),OR m nt e a o->∃ cv,(execOp a.eval o).run P w = .ok (.value cv) w/\VR m v cv):fq P nt o e H v H:=
 fq.of_run hnd λbase w0 rho w a hp ho=>by
  obtain ⟨cv,h1,h2⟩:=h _ w a ho
  exact ⟨cv,w,h1,rho,h2,hp,Ext.refl hp.lt⟩
section
variable {P:Program} {nt:Nat} {o:Oper} {id:Nat} {ph:cU} {e:Env} {H:Heap} {k:K}
def Good (P:Program) (nt:Nat) (o:Oper) (e:Env) (H:Heap) (k:K):Prop:=∃ v H',fq P nt o e H v H'/\k v H'=1
theorem Tr {x} (hop:o.op = .move x\/o.op = .assign x) (h:aL (ai P nt o) id ph e H k=1):Good P nt o e H k:=by
 have hc:ai P nt o=match aH nt x with|some a=>.kN a|none=>.bad:=by rcases hop with h|h<;>simp only [ai,h]<;>rfl
 rw [hc]at h
 split at h
 .rename_i a ha
  have h':aG a e (λv=>k v H)=1:=h
  rw [aq]at h'
  refine ⟨_,_,fq.bH (by grind) λm w ac ho=>?_,h'⟩
  exact ⟨ac.eval x,by rcases hop with h|h<;>simp [execOp,h],ho x (by rcases hop with h|h<;>simp [Op.operands,h]) a ha⟩
 .exact (av h).elim
theorem abk {c x y} (hop:o.op = .pick c x y) (h:aL (ai P nt o) id ph e H k=1):Good P nt o e H k:=by
 simp only [ai,hop]at h
 split at h
 .rename_i c' x' y' hc hx hy
  have h':aG c' e (λc=>eV id c λb=>aF b (aG x' e λv=>k v H) (aG y' e λv=>k v H))=1:=h
  rw [aq]at h'
  obtain ⟨b,hb,h2⟩:=mR h'
  rw [aq,aq]at h2
  cases b
  .refine ⟨_,_,fq.bH (by simp_all) λm w ac ho=>?_,h2⟩
   have h3:=ho c (by simp [Op.operands,hop]) c' hc
   rw [hb]at h3
   simp only [VR]at h3
   exact ⟨ac.eval y,by simp [execOp,hop,h3,asBool],ho y (by simp [Op.operands,hop]) y' hy⟩
  .refine ⟨_,_,fq.bH (by simp_all) λm w ac ho=>?_,h2⟩
   have h3:=ho c (by simp [Op.operands,hop]) c' hc
   rw [hb]at h3
   simp only [VR]at h3
   exact ⟨ac.eval x,by simp [execOp,hop,h3,asBool],ho x (by simp [Op.operands,hop]) x' hx⟩
 .exact (av h).elim
end
end Go.Ev
end
section
namespace Go.Ev
theorem fS (m n:Nat):YM m n=decide (m=n):=by
 by_cases h:m=n
 .simp_all
 .rw [decide_eq_false h]
  cases hq:YM m n with
  | false=>rfl
  | true=>simp_all
theorem Uj (k:IntKind) (x):k.wrap x%(2 ^ k.bits:Int)=x%(2 ^ k.bits:Int):=by
 cases k<;>simp only [IntKind.wrap,IntKind.bits,IntKind.signed,YL3,Qo]<;>(simp)<;>omega
theorem rM (k:IntKind) {x y} (h:x%(2 ^ k.bits:Int)=y%(2 ^ k.bits:Int)):k.wrap x=k.wrap y:=by
 unfold IntKind.wrap
 rw [h]
theorem abR (k):((eg k:Nat):Int)=2 ^ k.bits:=by rfl
theorem pZ (k) {x} {n:Nat} (h:x%(2 ^ k.bits:Int)=(n:Int)%(2 ^ k.bits:Int)):k.wrap x=toI k n:=rM k h
theorem toI_mod (k) (n):toI k n%(2 ^ k.bits:Int)=(n:Int)%(2 ^ k.bits:Int):=Uj k _
theorem xT (k):0<eg k:=by cases k<;>decide
theorem toI_small (k) (n) (h:n<half k):toI k n=n:=by
 show k.wrap (n:Int)=n
 cases k<;>simp only [half,IntKind.wrap,IntKind.bits,IntKind.signed,YL3,Qo,if_true,YT,if_false]at * <;> (simp)<;>first|omega|(simp at h2)|rfl
theorem RU (k) (h:half k≠eg k):2*half k=eg k:=by
 cases k<;>simp [half,eg,IntKind.bits,IntKind.signed]at *
theorem toI_neg (k) (n) (h:half k<=n) (hn:n<eg k):toI k n=(n:Int)-eg k:=by
 show k.wrap (n:Int)=_
 cases k<;>simp [half,eg,IntKind.wrap,IntKind.bits,IntKind.signed]at * <;> omega
theorem toI_off (k) (n) (h:n<eg k):toI k n=(((n+fL k)%2 ^ k.bits:Nat):Int)-(fL k:Nat):=by
 show k.wrap (n:Int)=_
 cases k<;>simp [fL,IntKind.wrap,IntKind.bits,IntKind.signed]at * <;> (omega)<;>omega
theorem toI_inj (k) {a b} (ha:a<eg k) (hb:b<eg k) (h:toI k a=toI k b):a=b:=by
 have h1:=toI_mod k a
 rw [h,toI_mod k b]at h1
 have e1:(a:Int)%2 ^ k.bits=a:=YG1 (by omega) (by exact_mod_cast ha)
 have e2:(b:Int)%2 ^ k.bits=b:=YG1 (by omega) (by exact_mod_cast hb)
 omega
theorem toI_64 {n} {kd} (hk:3<=kd) (hk8:kd<8) (h:n<9223372036854775808) (hm:n<eg (pC kd)):toI (pC kd) n=n:=by
 refine toI_small _ _ ?_
 rcases (by omega:kd=3\/kd=4\/kd=5\/kd=6\/kd=7) with rfl|rfl|rfl|rfl|rfl<;>simp [pC,half,IntKind.signed,IntKind.bits,eg]at * <;> omega
theorem uu (k) {a} (h:a<eg k):BitVec.ofInt k.bits (toI k a)=BitVec.ofNat k.bits a:=by
 apply BitVec.eq_of_toNat_eq
 rw [BitVec.toNat_ofInt,BitVec.toNat_ofNat]
 have:=toI_mod k a
 grind
section
variable {P:Program} {w:World}
theorem Pk {t:TypeId} {op:BinOp} {k ky:IntKind} {f:BF} {id a b:Nat} {c:Nat->R} (hf:ZJ op k=some f) (hky:(sE op=false/\ky=k)\/(sE op=true/\(ky.signed=true->ky.bits=64)))
 (h:kE id f a b c=1):∃ r,c r=1/\(a<eg k->b<eg ky->r<eg k/\∀ w:World,(binOp op t (.int k (toI k a)) (.int ky (toI ky b))).run P w = .ok (.int k (toI k r)) w):=by
 have hM:(0:Int)<2 ^ k.bits:=by cases k<;>decide
 have hMn:eg k=2 ^ k.bits:=rfl
 have hpos:=xT k
 have am:=toI_mod k a
 cases op<;>simp only [ZJ,Option.some.injEq,reduceCtorEq]at hf<;>subst hf
 .rcases hky with ⟨_,rfl⟩|⟨hs,_⟩
  .have bm:=toI_mod ky b
   have h':au (Yq (Yd a b) (2 ^ ky.bits)) c=1:=h
   rw [aw]at h'
   refine ⟨_,h',λha hb=>⟨QG _ hpos,λw=>?_⟩⟩
   simp only [binOp,ne_eq,not_true_eq_false,if_false,Op.intArith,Sem.run_pure]
   congr 2
   refine pZ ky ?_
   rw [Int.add_emod,am,bm,<- Int.add_emod]
   show _=(((a+b)%2 ^ ky.bits:Nat):Int)%_
   simp
  .cases hs
 .rcases hky with ⟨_,rfl⟩|⟨hs,_⟩
  .have bm:=toI_mod ky b
   have h':au (Yq (Yd a (Wn (2 ^ ky.bits) b)) (2 ^ ky.bits)) c=1:=h
   rw [aw]at h'
   refine ⟨_,h',λha hb=>⟨QG _ hpos,λw=>?_⟩⟩
   simp only [binOp,ne_eq,not_true_eq_false,if_false,Op.intArith,Sem.run_pure]
   congr 2
   refine pZ ky ?_
   rw [Int.sub_emod,am,bm,<- Int.sub_emod]
   show _=(((a+(2 ^ ky.bits-b))%2 ^ ky.bits:Nat):Int)%_
   have hb':b<2 ^ ky.bits:=hb
   rw [Int.natCast_emod,Int.natCast_add,Int.natCast_sub (QY hb')]
   simp only [Int.natCast_pow,Int.cast_ofNat_Int,Int.emod_emod_of_dvd _ (Int.dvd_refl _)]
   rw [show (a:Int)+(2 ^ ky.bits-(b:Int))=((a:Int)-b)+2 ^ ky.bits by omega,Int.add_emod_right]
  .cases hs
 .rcases hky with ⟨_,rfl⟩|⟨hs,_⟩
  .have bm:=toI_mod ky b
   have h':au (Yq (Yj a b) (2 ^ ky.bits)) c=1:=h
   rw [aw]at h'
   refine ⟨_,h',λha hb=>⟨QG _ hpos,λw=>?_⟩⟩
   simp only [binOp,ne_eq,not_true_eq_false,if_false,Op.intArith,Sem.run_pure]
   congr 2
   refine pZ ky ?_
   rw [YI0,am,bm,<- YI0]
   show _=(((a*b)%2 ^ ky.bits:Nat):Int)%_
   simp
  .cases hs
 .rcases hky with ⟨_,rfl⟩|⟨hs,_⟩
  .have h':aF (Yx a (half ky)) (aF (Yx b (half ky)) (aF (YM b 0) (no _) (au (Wf a b) c)) (no _)) (no _)=1:=h
   obtain ⟨h1,h2⟩:=aQ h'
   obtain ⟨h3,h4⟩:=aQ h2
   rcases bP h4 with ⟨_,h5⟩|⟨h5,h6⟩
   .exact (av h5).elim
   .rw [aw]at h6
    have hb0:b≠0:=λe=>by subst e;cases h5
    have ha':=eO h1
    have hdv:a/b<half ky:=Wk (YJ0 a b) ha'
    refine ⟨_,h6,λha hb=>⟨Wk (YJ0 a b) ha,λw=>?_⟩⟩
    rw [toI_small ky a ha',toI_small ky b (eO h3)]
    have hz:(b:Int)≠0:=by omega
    simp only [binOp,ne_eq,not_true_eq_false,if_false,Op.intDiv,hz,Sem.run_pure]
    congr 2
  .cases hs
 .rcases hky with ⟨_,rfl⟩|⟨hs,_⟩
  .have h':aF (Yx a (half ky)) (aF (Yx b (half ky)) (aF (YM b 0) (no _) (au (Yq a b) c)) (no _)) (aF (Yx b (half ky)) (aF (YM b 0) (no _) (au (Yq (Wn (Yj 2 (half ky)) (Yq (Wn (Yj 2 (half ky)) a) b)) (Yj 2 (half ky))) c)) (no _))=1:=h
   rcases bP h' with ⟨h1,h2⟩|⟨h1,h2⟩
   .obtain ⟨h3,h4⟩:=aQ h2
    rcases bP h4 with ⟨_,h5⟩|⟨h5,h6⟩
    .exact (av h5).elim
    .rw [aw]at h6
     have hb0:b≠0:=λe=>by subst e;cases h5
     have ha':=eO h1
     have hdv:a%b<half ky:=Wk (Nat.mod_le a b) ha'
     refine ⟨_,h6,λha hb=>⟨Wk (Nat.mod_le a b) ha,λw=>?_⟩⟩
     rw [toI_small ky a ha',toI_small ky b (eO h3)]
     have hz:(b:Int)≠0:=by omega
     simp only [binOp,ne_eq,not_true_eq_false,if_false,Op.intDiv,hz,Sem.run_pure]
     congr 2
     show (a:Int).tmod (b:Int)=toI ky (a%b)
     rw [toI_small ky _ hdv]
     rfl
   .obtain ⟨h3,h4⟩:=aQ h2
    rcases bP h4 with ⟨_,h5⟩|⟨h5,h6⟩
    .exact (av h5).elim
    .rw [aw]at h6
     have hb0:b≠0:=λe=>by subst e;cases h5
     have hb':=eO h3
     have ha0:¬ a<half ky:=λh=>by
      rw [show Yx a (half ky)=true from by rw [Nat.blt_eq];exact h]at h1
      cases h1
     have hlt:(2*half ky-a)%b<b:=QG _ (by omega)
     refine ⟨_,h6,λha hb=>?_⟩
     have hk2:2*half ky=eg ky:=RU ky (λh=>ha0 (h ▸ ha))
     show (2*half ky-(2*half ky-a)%b)%(2*half ky)<eg ky/\_
     refine ⟨by rw [hk2];exact QG _ hpos,λw=>?_⟩
     rw [toI_neg ky a (by omega) ha,toI_small ky b hb',<- hk2]
     have hz:(b:Int)≠0:=by omega
     simp only [binOp,ne_eq,not_true_eq_false,if_false,Op.intDiv,hz,Sem.run_pure]
     congr 2
     show ((a:Int)-(2*half ky:Nat)).tmod (b:Int)=toI ky ((2*half ky-(2*half ky-a)%b)%(2*half ky))
     obtain ⟨n,hn⟩:∃ n,n=2*half ky-a:=⟨_,rfl⟩
     rw [show (a:Int)-(2*half ky:Nat) = -(n:Int) by omega,Int.neg_tmod,<- hn]
     show -((n%b:Nat):Int)=_
     rw [<- hn]at hlt
     generalize n%b=q at hlt ⊢
     rcases Nat.eq_zero_or_pos q with rfl|hq
     .rw [Nat.sub_zero,Nat.mod_self,toI_small ky 0 (by omega)]
      rfl
     .rw [WE (show 2*half ky-q<2*half ky by omega),toI_neg ky _ (by omega) (by omega),<- hk2]
      omega
  .cases hs
 .rcases hky with ⟨_,rfl⟩|⟨hs,_⟩
  .have h':au (Qt a b) c=1:=h
   rw [aw]at h'
   refine ⟨_,h',λha hb=>⟨Wk YO4 ha,λw=>?_⟩⟩
   simp only [binOp,ne_eq,not_true_eq_false,if_false,Op.intBits,uu ky ha,uu ky hb,Sem.run_pure]
   congr 2
   show ky.wrap _=toI ky (a &&& b)
   rw [BitVec.toNat_and,BitVec.toNat_ofNat,BitVec.toNat_ofNat,WE (show a<2 ^ ky.bits from ha),WE (show b<2 ^ ky.bits from hb)]
   rfl
  .cases hs
 .rcases hky with ⟨_,rfl⟩|⟨hs,_⟩
  .have h':au (Nat.lor a b) c=1:=h
   rw [aw]at h'
   refine ⟨_,h',λha hb=>⟨Nat.or_lt_two_pow (n:=ky.bits) ha hb,λw=>?_⟩⟩
   simp only [binOp,ne_eq,not_true_eq_false,if_false,Op.intBits,uu ky ha,uu ky hb,Sem.run_pure]
   congr 2
   show ky.wrap _=toI ky (a ||| b)
   rw [BitVec.toNat_or,BitVec.toNat_ofNat,BitVec.toNat_ofNat,WE (show a<2 ^ ky.bits from ha),WE (show b<2 ^ ky.bits from hb)]
   rfl
  .cases hs
 .rcases hky with ⟨_,rfl⟩|⟨hs,_⟩
  .have h':au (YM4 a b) c=1:=h
   rw [aw]at h'
   refine ⟨_,h',λha hb=>⟨Nat.xor_lt_two_pow (n:=ky.bits) ha hb,λw=>?_⟩⟩
   simp only [binOp,ne_eq,not_true_eq_false,if_false,Op.intBits,uu ky ha,uu ky hb,Sem.run_pure]
   congr 2
   show ky.wrap _=toI ky (a ^^^ b)
   rw [BitVec.toNat_xor,BitVec.toNat_ofNat,BitVec.toNat_ofNat,WE (show a<2 ^ ky.bits from ha),WE (show b<2 ^ ky.bits from hb)]
   rfl
  .cases hs
 .rcases hky with ⟨hs,_⟩|⟨_,hk⟩
  .cases hs
  have hbs:∀ (hb:b<eg ky) (hlt:b<9223372036854775808),toI ky b=b:=λhb hlt=>by
   refine toI_small _ _ ?_
   unfold half eg at *
   grind
  have hbits:k.bits<=64:=by cases k<;>decide
  have h':aF (YX b k.bits) (au (Yq (Yt a b) (2 ^ k.bits)) c) (aF (Yx b 9223372036854775808) (c 0) (no _))=1:=h
  rcases bP h' with ⟨h1,h2⟩|⟨h1,h2⟩
  .have hle:=cA h1
   rw [aw]at h2
   refine ⟨_,h2,λha hb=>⟨QG _ hpos,λw=>?_⟩⟩
   have hn:¬ ((b:Int)<0):=by omega
   simp only [binOp,Op.shift,hbs hb (by omega),hn,if_false,Sem.run_pure,Qn,QZ hle]
   congr 2
   refine pZ k ?_
   rw [YI0,am,<- YI0]
   show _=(((a <<< b)%2 ^ k.bits:Nat):Int)%_
   rw [Qg]
   simp
  .obtain ⟨h3,h4⟩:=aQ h2
   have hgt:k.bits<=b:=by
    rcases Yh k.bits b with hlt|hge
    .omega
    .rw [WV hge]at h1;cases h1
   refine ⟨0,h4,λha hb=>⟨hpos,λw=>?_⟩⟩
   have hn:¬ ((b:Int)<0):=by omega
   simp only [binOp,Op.shift,hbs hb (eO h3),hn,if_false,Sem.run_pure,Qn,Qp hgt]
   congr 2
   refine pZ k ?_
   simp
 .rcases hky with ⟨hs,_⟩|⟨_,hk⟩
  .cases hs
  have hbs:∀ (hb:b<eg ky) (hlt:b<9223372036854775808),toI ky b=b:=λhb hlt=>by
   refine toI_small _ _ ?_
   unfold half eg at *
   grind
  have hbits:k.bits<=64:=by cases k<;>decide
  have h':aF (Yx a (half k)) (aF (YX b k.bits) (au (WC a b) c) (aF (Yx b 9223372036854775808) (c 0) (no _))) (no _)=1:=h
  obtain ⟨h0,h0'⟩:=aQ h'
  have ha':=eO h0
  have hn:¬ ((b:Int)<0):=by omega
  rcases bP h0' with ⟨h1,h2⟩|⟨h1,h2⟩
  .have hle:=cA h1
   rw [aw]at h2
   have hsm:a >>> b<=a:=by rw [WG];exact YJ0 _ _
   refine ⟨_,h2,λha hb=>⟨Wk hsm ha,λw=>?_⟩⟩
   simp only [binOp,Op.shift,hbs hb (by omega),hn,if_false,Sem.run_pure,Qn,QZ hle,toI_small k a ha']
   congr 2
   show (a:Int).fdiv (2 ^ b)=toI k (a >>> b)
   rw [toI_small k _ (Wk hsm ha'),WG,YE1 _ (by grind)]
   simp
  .obtain ⟨h3,h4⟩:=aQ h2
   have hgt:k.bits<=b:=by
    rcases Yh k.bits b with hlt|hge
    .omega
    .rw [WV hge]at h1;cases h1
   refine ⟨0,h4,λha hb=>⟨hpos,λw=>?_⟩⟩
   simp only [binOp,Op.shift,hbs hb (eO h3),hn,if_false,Sem.run_pure,Qn,Qp hgt,toI_small k a ha']
   congr 2
   show (a:Int).fdiv (2 ^ k.bits)=toI k 0
   rw [toI_small k 0 (by grind),YE1 _ (by grind)]
   have:(a:Int)<2 ^ k.bits:=by grind
   rw [Int.ediv_eq_zero_of_lt (by omega) this]
   rfl
 .rcases hky with ⟨_,rfl⟩|⟨hs,_⟩
  .have h':au (Qt a (YM4 b (Nat.pred (2 ^ ky.bits)))) c=1:=h
   rw [aw]at h'
   refine ⟨_,h',λha hb=>⟨Wk YO4 ha,λw=>?_⟩⟩
   simp only [binOp,ne_eq,not_true_eq_false,if_false,Op.intBits,uu ky ha,uu ky hb,Sem.run_pure]
   rw [<- BitVec.xor_allOnes,BitVec.toNat_and,BitVec.toNat_xor,BitVec.toNat_allOnes,BitVec.toNat_ofNat,BitVec.toNat_ofNat,WE (show a<2 ^ ky.bits from ha),WE (show b<2 ^ ky.bits from hb)]
   rfl
  .cases hs
theorem adl {t} {op} {k} {f} {a b} (hf:aaa op k=some f) (ha:a<eg k) (hb:b<eg k):
 (binOp op t (.int k (toI k a)) (.int k (toI k b))).run P w = .ok (.bool (dA f a b)) w:=by
 have oa:=toI_off k a ha
 have ob:=toI_off k b hb
 have hinj:toI k a=toI k b↔a=b:=⟨toI_inj k ha hb,λe=>by rw [e]⟩
 have hbeq:=by
  exact fS a b
 have hblt:∀ m n,Yx m n=decide (m<n):=λm n=>by
  by_cases h:m<n
  .simp_all
  .rw [decide_eq_false h]
   cases hq:Yx m n with
   | false=>rfl
   | true=>exact absurd (eO hq) h
 have hble:∀ m n,YX m n=decide (m<=n):=λm n=>by
  by_cases h:m<=n
  .simp_all
  .rw [decide_eq_false h]
   cases hq:YX m n with
   | false=>rfl
   | true=>exact absurd (cA hq) h
 cases op<;>simp only [aaa,Option.some.injEq,reduceCtorEq]at hf<;>subst hf<;>simp only [binOp,ne_eq,not_true_eq_false,if_false,Op.intCmp,Sem.run_pure]
 .congr 2
  show (toI k a == toI k b)=YM a b
  grind
 .congr 2
  show (toI k a != toI k b)=Bool.rec true false (YM a b)
  rw [hbeq]
  by_cases h:a=b<;>simp [h,hinj]
 .congr 2
  show decide (toI k a<toI k b)=Yx ((a+fL k)%2 ^ k.bits) ((b+fL k)%2 ^ k.bits)
  grind
 .congr 2
  show decide (toI k a<=toI k b)=YX ((a+fL k)%2 ^ k.bits) ((b+fL k)%2 ^ k.bits)
  grind
 .congr 2
  show decide (toI k a>toI k b)=Yx ((b+fL k)%2 ^ k.bits) ((a+fL k)%2 ^ k.bits)
  grind
 .congr 2
  show decide (toI k a>=toI k b)=YX ((b+fL k)%2 ^ k.bits) ((a+fL k)%2 ^ k.bits)
  grind
theorem abp {l m n} (hm:m<256 ^ l) (hn:n<256 ^ l):((⟨(aB l m).toArray⟩:ByteArray).toList == (⟨(aB l n).toArray⟩:ByteArray).toList)=YM m n:=by
 have hbeq:=by
  exact fS m n
 rw [hbeq]
 by_cases h:m=n
 .simp_all
 .rw [decide_eq_false h]
  simp only [beq_eq_false_iff_ne,ne_eq]
  intro e
  rw [ByteArray.toList_eq,ByteArray.toList_eq]at e
  exact h (rF hm hn (by omega))
end
end Go.Ev
end
section
set_option maxRecDepth 10000
namespace Go.Ev
open Go.RowKit
section
variable {P:Program} {nt:Nat} {o:Oper} {id:Nat} {ph:cU} {e:Env} {H:Heap} {k:K}
theorem abj {x} (hop:o.op = .nilCheck x) (h:aL (ai P nt o) id ph e H k=1):Good P nt o e H k:=by
 simp only [ai,hop]at h
 split at h
 .rename_i a ha
  have h':aG a e _=1:=h
  rw [aq]at h'
  have key:k (ay a e) H=1/\ay a e ≠ .pK/\ay a e ≠ .lV/\ay a e ≠ .GZ:=by
   generalize ay a e=v at h'
   cases v<;>first|exact (av h').elim|simp_all
  refine ⟨_,_,fq.bH (by simp_all) λm w ac ho=>?_,key.1⟩
  have h3:=ho x (by simp [Op.operands,hop]) a ha
  refine ⟨ac.eval x,?_,h3⟩
  obtain ⟨_,h4,h5,h6⟩:=key
  generalize ay a e=v at h3 h4 h5 h6
  cases v<;>simp only [VR]at h3<;>
   first
   | grind
   | grind
   | grind
   | (simp [execOp,hop,h3];done)
   | rfl
   | (obtain ⟨c,h3,_⟩:=h3;simp [execOp,hop,h3])
   | (obtain ⟨c,d,o,sp,h3,_⟩:=h3;simp [execOp,hop,h3])
 .exact (av h).elim
theorem nX {op} {t} {x y} {k1 k2} {a b} {w}:(eqGuard op t x y (.int k1 a) (.int k2 b)).run P w = .ok () w:=by
 unfold eqGuard
 simp
theorem nY {op} {t} {x y} {a b} {w}:(eqGuard op t x y (.string a) (.string b)).run P w = .ok () w:=by
 unfold eqGuard
 simp
theorem B6 {kd ky} {f} {x y} (h:Nd kd ky f x y id ph e H k=1):∃ a b,ay x e = .int kd a/\ay y e = .int ky b/\kE id f a b (λr=>k (.int kd r) H)=1:=by
 unfold Nd at h
 rw [aq]at h
 obtain ⟨k1,a,ha,h1⟩:=dK h
 rw [aq]at h1
 obtain ⟨k2,b,hb,h2⟩:=dK h1
 obtain ⟨h3,h4⟩:=aQ h2
 obtain ⟨h5,h6⟩:=aQ h4
 simp_all
def nc:V->Option Nat
 | .bool true=>some 2 | .bool false=>some 3 | .ptr _ _=>some 11 | .pK=>some 10 | .slice _ _ _ _ _=>some 21 | .az=>some 20 | .map _=>some 31 | .yg=>some 30
 | .func _ _=>some 41 | .lV=>some 40 | .iface _ _=>some 51 | .GZ=>some 50 | _=>none
theorem Ha {x} {k} (h:gh id x k=1):∃ c,nc x=some c/\k c=1:=by
 cases x<;>first|exact (av h).elim|exact ⟨_,rfl,h⟩|(rename_i b;cases b<;>exact ⟨_,rfl,h⟩)
theorem Vb {kc} {neg} {x y} (h:Va kc neg x y id ph e H k=1):∃ a b,nc (ay x e)=some a/\nc (ay y e)=some b/\a/10=kc/\b/10=kc/\(a=b->a%10≠1)/\k (.bool (if neg then !decide (a=b) else decide (a=b))) H=1:=by
 unfold Va at h
 rw [aq]at h
 obtain ⟨a,h1,h2⟩:=Ha h
 rw [aq]at h2
 obtain ⟨b,h3,h4⟩:=Ha h2
 obtain ⟨h5,h6⟩:=aQ h4
 obtain ⟨h7,h8⟩:=aQ h6
 refine ⟨a,b,h1,h3,cI h5,cI h7,?_⟩
 rcases bP h8 with ⟨h9,h10⟩|⟨h9,h10⟩
 .have e:=cI h9
  subst e
  rcases bP h10 with ⟨_,h11⟩|⟨h11,h12⟩
  .exact (av h11).elim
  .rw [fS]at h11
   have h11':=of_decide_eq_false h11
   refine ⟨λ_=>h11',?_⟩
   rcases bP h12 with ⟨h13,h14⟩|⟨h13,h14⟩<;>subst h13<;>simpa using h14
 .rw [fS]at h9
  simp_all
theorem SD {x} {a} (h:nc x=some a) (hk:a/10=1):(x = .pK/\a=10)\/∃ b o,x = .ptr b o/\a=11:=by
 cases x<;>simp only [nc,Option.some.injEq,reduceCtorEq]at h<;>(simp)<;>first|grind|grind|omega|grind
theorem GV {x} {a} (h:nc x=some a) (hk:a/10=2):(x = .az/\a=20)\/∃ b o l c s,x = .slice b o l c s/\a=21:=by
 cases x<;>simp only [nc,Option.some.injEq,reduceCtorEq]at h<;>(simp)<;>first|grind|grind|omega|grind
theorem SC {x} {a} (h:nc x=some a) (hk:a/10=3):(x = .yg/\a=30)\/∃ b,x = .map b/\a=31:=by
 cases x<;>simp only [nc,Option.some.injEq,reduceCtorEq]at h<;>(simp)<;>first|grind|grind|omega|grind
theorem Mp {x} {a} (h:nc x=some a) (hk:a/10=4):(x = .lV/\a=40)\/∃ f l,x = .func f l/\a=41:=by
 cases x<;>simp only [nc,Option.some.injEq,reduceCtorEq]at h<;>(simp)<;>first|grind|grind|omega|grind
theorem GU {x} {a} (h:nc x=some a) (hk:a/10=5):(x = .GZ/\a=50)\/∃ t v,x = .iface t v/\a=51:=by
 cases x<;>simp only [nc,Option.some.injEq,reduceCtorEq]at h<;>(simp)<;>first|grind|grind|omega|grind
theorem Mo {x} {a} (h:nc x=some a) (hk:a/10=0):(x = .bool true/\a=2)\/(x = .bool false/\a=3):=by
 cases x<;>simp only [nc,Option.some.injEq,reduceCtorEq]at h<;>(simp)<;>first|omega|grind
def Xy (P:Program) (kc:Nat) (t:TypeId):Prop:=(kc=0/\P.underlying t=some .bool)\/(kc=1/\∃ d,P.underlying t=some (.pointer d))\/(kc=2/\∃ d,P.underlying t=some (.slice d))\/(kc=3/\∃ d d',P.underlying t=some (.map d d'))\/(kc=4/\∃ d d' d'',P.underlying t=some (.func d d' d''))\/(kc=5/\∃ d,P.underlying t=some (.interface d))
theorem Ve {kc:Nat} {t:TypeId} {m:M} {x y:V} {cx cy:Value} {a b:Nat} {w:World} (hu:Xy P kc t)
 (hx:VR m x cx) (hy:VR m y cy) (ha:nc x=some a) (hb:nc y=some b) (hka:a/10=kc) (hkb:b/10=kc) (hab:a=b->a%10≠1):(Op.equal t cx cy).run P w = .ok (decide (a=b)) w:=by
 show (Op.equalIn (9999+1) t cx cy).run P w=_
 generalize 9999=dd
 rcases hu with ⟨rfl,hu⟩|⟨rfl,d,hu⟩|⟨rfl,d,hu⟩|⟨rfl,d,d',hu⟩|⟨rfl,d,d',d'',hu⟩|⟨rfl,d,hu⟩
 .rcases Mo ha hka with ⟨rfl,rfl⟩|⟨rfl,rfl⟩<;>rcases Mo hb hkb with ⟨rfl,rfl⟩|⟨rfl,rfl⟩<;>simp only [VR]at hx hy<;>subst hx hy<;>
   (simp only [Op.equalIn,Sem.run_bind,run_underlying hu,Result.andThen_ok];rfl)
 .rcases SD ha hka with ⟨rfl,rfl⟩|⟨p,q,rfl,rfl⟩<;>rcases SD hb hkb with ⟨rfl,rfl⟩|⟨p',q',rfl,rfl⟩<;>simp only [VR]at hx hy<;>first|exact absurd rfl (hab rfl)|skip
  .subst hx hy; (simp only [Op.equalIn,Sem.run_bind,run_underlying hu,Result.andThen_ok];rfl)
  .obtain ⟨c,rfl,_⟩:=hy;subst hx; (simp only [Op.equalIn,Sem.run_bind,run_underlying hu,Result.andThen_ok];rfl)
  .obtain ⟨c,rfl,_⟩:=hx;subst hy; (simp only [Op.equalIn,Sem.run_bind,run_underlying hu,Result.andThen_ok];rfl)
 .rcases GV ha hka with ⟨rfl,rfl⟩|⟨p,q,r,s,s1,rfl,rfl⟩<;>rcases GV hb hkb with ⟨rfl,rfl⟩|⟨p',q',r',s',s2,rfl,rfl⟩<;>simp only [VR]at hx hy<;>first|exact absurd rfl (hab rfl)|skip
  .subst hx hy; (simp only [Op.equalIn,Sem.run_bind,run_underlying hu,Result.andThen_ok];rfl)
  .obtain ⟨c,cap,o',sp,rfl,_⟩:=hy;subst hx; (simp only [Op.equalIn,Sem.run_bind,run_underlying hu,Result.andThen_ok];rfl)
  .obtain ⟨c,cap,o',sp,rfl,_⟩:=hx;subst hy; (simp only [Op.equalIn,Sem.run_bind,run_underlying hu,Result.andThen_ok];rfl)
 .rcases SC ha hka with ⟨rfl,rfl⟩|⟨p,rfl,rfl⟩<;>rcases SC hb hkb with ⟨rfl,rfl⟩|⟨p',rfl,rfl⟩<;>simp only [VR]at hx hy<;>first|exact absurd rfl (hab rfl)|skip
  .subst hx hy; (simp only [Op.equalIn,Sem.run_bind,run_underlying hu,Result.andThen_ok];rfl)
  .obtain ⟨c,rfl,_⟩:=hy;subst hx; (simp only [Op.equalIn,Sem.run_bind,run_underlying hu,Result.andThen_ok];rfl)
  .obtain ⟨c,rfl,_⟩:=hx;subst hy; (simp only [Op.equalIn,Sem.run_bind,run_underlying hu,Result.andThen_ok];rfl)
 .rcases Mp ha hka with ⟨rfl,rfl⟩|⟨p,q,rfl,rfl⟩<;>rcases Mp hb hkb with ⟨rfl,rfl⟩|⟨p',q',rfl,rfl⟩<;>simp only [VR]at hx hy<;>first|exact absurd rfl (hab rfl)|skip
  .subst hx hy; (simp only [Op.equalIn,Sem.run_bind,run_underlying hu,Result.andThen_ok];rfl)
  .obtain ⟨c,rfl,_⟩:=hy;subst hx; (simp only [Op.equalIn,Sem.run_bind,run_underlying hu,Result.andThen_ok];rfl)
  .obtain ⟨c,rfl,_⟩:=hx;subst hy; (simp only [Op.equalIn,Sem.run_bind,run_underlying hu,Result.andThen_ok];rfl)
 .rcases GU ha hka with ⟨rfl,rfl⟩|⟨p,q,rfl,rfl⟩<;>rcases GU hb hkb with ⟨rfl,rfl⟩|⟨p',q',rfl,rfl⟩<;>simp only [VR]at hx hy<;>first|exact absurd rfl (hab rfl)|skip
  .subst hx hy; (simp only [Op.equalIn,Sem.run_bind,run_underlying hu,Result.andThen_ok];rfl)
  .obtain ⟨c,rfl,_⟩:=hy;subst hx; (simp only [Op.equalIn,Sem.run_bind,run_underlying hu,Result.andThen_ok];rfl)
  .obtain ⟨c,rfl,_⟩:=hx;subst hy; (simp only [Op.equalIn,Sem.run_bind,run_underlying hu,Result.andThen_ok];rfl)
theorem SE {m} {x} {cx} {a} (hx:VR m x cx) (ha:nc x=some a):(∀ l,cx ≠ .agg l)/\(cx = .nilIface->a/10=5):=by
 cases x<;>simp only [VR]at hx<;>
  first
  | (simp only [nc,reduceCtorEq]at ha;done)
  | (subst hx;refine ⟨λ_=>nofun,λe=>?_⟩;first | rfl | (simp only [nc,Option.some.injEq]at ha;omega))
  | rfl
  | grind
  | grind
theorem vr {op} {kc} {t} {m} {ox oy} {x y} {cx cy} {a b} {w} (hx:VR m x cx) (hy:VR m y cy) (ha:nc x=some a) (hb:nc y=some b) (hka:a/10=kc) (hkb:b/10=kc)
 (hc:kc=5->(∃ v,ox = .const v)\/∃ v,oy = .const v):(eqGuard op t ox oy cx cy).run P w = .ok () w:=by
 obtain ⟨h1,h2⟩:=SE hx ha
 unfold eqGuard
 cases op<;>try rfl
 all_goals
  cases cx<;>try rfl
  case agg l=>simp_all
  case nilIface=>
   cases cy<;>try rfl
   rcases hc (hka.symm.trans (h2 rfl)) with ⟨v,rfl⟩|⟨v,rfl⟩
   .rfl
   simp
theorem Az {x} {ar} {nt} {e} (h:aH nt x=some ar) (hi:isC ar=true) {a} (hn:nc (ay ar e)=some a) (hk:a/10=5):∃ v,x = .const v:=by
 unfold aH at h
 split at h
 .split at h<;>cases h;cases hi
 .simp
 .cases h
  simp [ay,nc]at hn
  omega
 simp_all
theorem mB {kc:Nat} {op:BinOp} {xt yt:TypeId} {x y:Operand} {x' y':Arg} (hop:o.op = .binOp op xt x y yt) (hx:aH nt x=some x') (hy:aH nt y=some y') (hu:Xy P kc xt) (hc:kc=5->isC x'=true\/isC y'=true)
 (h:aL (nS kc op x' y') id ph e H k=1):Good P nt o e H k:=by
 have mem:x ∈ o.op.operands/\y ∈ o.op.operands:=by simp [hop,Op.operands]
 have hnd:∀ c,o.op ≠ .defer c:=by simp [hop]
 have key:∀ neg:Bool,(op=if neg then .neq else .eql)->Va kc neg x' y' id ph e H k=1->Good P nt o e H k:=by
  intro neg hneg h'
  obtain ⟨a,b,h1,h2,h3,h4,h5,h6⟩:=Vb h'
  refine ⟨_,_,fq.bH hnd λm w ac ho=>?_,h6⟩
  have vx:=ho x mem.1 x' hx
  have vy:=ho y mem.2 y' hy
  have hc':kc=5->(∃ v,x = .const v)\/∃ v,y = .const v:=λe5=>(hc e5).imp (λhi=>Az hx hi h1 (h3.trans e5)) (λhi=>Az hy hi h2 (h4.trans e5))
  have hr:=Ve (w:=w) hu vx vy h1 h2 h3 h4 h5
  have hg:=vr (P:=P) (op:=op) (t:=xt) (w:=w) vx vy h1 h2 h3 h4 hc'
  refine ⟨.bool (if neg then !decide (a=b) else decide (a=b)),?_,by simp only [VR]⟩
  simp only [execOp,hop,Sem.run_bind,hg,Result.andThen_ok]
  have hb:(binOp op xt (ac.eval x) (ac.eval y)).run P w = .ok (.bool (if neg then !decide (a=b) else decide (a=b))) w:=by
   have hb':binOp op xt (ac.eval x) (ac.eval y)=if neg then (do pure (.bool (!(<- Op.equal xt (ac.eval x) (ac.eval y))))) else (do pure (.bool (<- Op.equal xt (ac.eval x) (ac.eval y)))):=by
    subst hneg
    generalize ac.eval x=cx at vx
    generalize ac.eval y=cy at vy
    cases hq:ay x' e<;>rw [hq]at h1 vx<;>simp only [nc,Option.some.injEq,reduceCtorEq]at h1<;>simp only [VR]at vx<;>
     first
     | (subst vx;cases neg<;>cases cy<;>rfl)
     | (obtain ⟨c1,vx,_⟩:=vx;subst vx;cases neg<;>cases cy<;>rfl)
     | (obtain ⟨c1,c2,c3,c4,vx,_⟩:=vx;subst vx;cases neg<;>cases cy<;>rfl)
   rw [hb']
   cases neg<;>simp [hr]
  rw [hb]
  rfl
 unfold nS at h
 split at h
 .exact key false (by simp) h
 .exact key true (by simp) h
 .exact (av h).elim
end
end Go.Ev
end
section
namespace Go.Ev
open Go.RowKit
section
variable {P:Program} {nt:Nat} {o:Oper} {id:Nat} {ph:cU} {e:Env} {H:Heap} {k:K}
theorem abl {op} {xt} {x} (hop:o.op = .unOp op xt x) (h:aL (ai P nt o) id ph e H k=1):Good P nt o e H k:=by
 simp only [ai,hop]at h
 have mem:x ∈ o.op.operands:=by simp [hop,Op.operands]
 have hnd:∀ c,o.op ≠ .defer c:=by simp_all
 split at h
 .rename_i x' hx
  have h':Rm x' id ph e H k=1:=h
  unfold Rm at h'
  rw [aq]at h'
  obtain ⟨b,hb,h1⟩:=mR h'
  have h2:k (.bool (!b)) H=1:=by
   rcases bP h1 with ⟨h2,h3⟩|⟨h2,h3⟩<;>subst h2<;>exact h3
  refine ⟨_,_,fq.bH hnd λm w ac ho=>?_,h2⟩
  have v:=ho x mem x' hx
  rw [hb]at v
  simp only [VR]at v
  exact ⟨.bool (!b),by simp [execOp,hop,v,Op.unary],by rfl⟩
 .rename_i x' hx
  split at h
  .rename_i kx hk
   have h':Nd (lT kx) (lT kx) (.sub (2 ^ kx.bits)) (.c (.int (lT kx) 0)) x' id ph e H k=1:=h
   obtain ⟨a,b,ha,hb,h1⟩:=B6 h'
   simp only [ay,V.int.injEq,true_and]at ha
   subst ha
   obtain ⟨r,h2,h3⟩:=Pk (P:=P) (t:=xt) (op:=.sub) rfl (YG ⟨rfl,rfl⟩) h1
   refine ⟨_,_,fq.bH hnd λm w ac ho=>?_,h2⟩
   have v:=ho x mem x' hx
   rw [hb]at v
   simp only [VR,dI]at v
   obtain ⟨h4,h5⟩:=h3 (xT kx) v.2.1
   have h6:=h5 w
   rw [toI_small kx 0 (by cases kx<;>decide)]at h6
   simp only [binOp,ne_eq,not_true_eq_false,if_false]at h6
   exact ⟨.int kx (toI kx r),by simp only [execOp,hop,v.1,Op.unary,Sem.run_bind];simp_all,by simp only [VR,dI];simp_all⟩
  .exact (av h).elim
 .rename_i x' hx
  split at h
  .rename_i kx hk
   have h':Nd (lT kx) (lT kx) .ZU (.c (.int (lT kx) (2 ^ kx.bits-1))) x' id ph e H k=1:=h
   obtain ⟨a,b,ha,hb,h1⟩:=B6 h'
   simp only [ay,V.int.injEq,true_and]at ha
   subst ha
   obtain ⟨r,h2,h3⟩:=Pk (P:=P) (t:=xt) (op:=.xor) rfl (YG ⟨rfl,rfl⟩) h1
   refine ⟨_,_,fq.bH hnd λm w ac ho=>?_,h2⟩
   have v:=ho x mem x' hx
   rw [hb]at v
   simp only [VR,dI]at v
   obtain ⟨h4,h5⟩:=h3 (by cases kx<;>decide) v.2.1
   have h6:=h5 w
   have h7:toI kx (2 ^ kx.bits-1)=if kx.signed then -1 else kx.max:=by cases kx<;>decide
   simp only [binOp,ne_eq,not_true_eq_false,if_false]at h6
   exact ⟨.int kx (toI kx r),by simp only [execOp,hop,v.1,Op.unary,Sem.run_bind];simp_all,by simp only [VR,dI];simp_all⟩
  .exact (av h).elim
 .exact (av h).elim
theorem vu {t} {x} (hop:o.op = .makeInterface t x) (h:aL (ai P nt o) id ph e H k=1):Good P nt o e H k:=by
 simp only [ai,hop]at h
 have mem:x ∈ o.op.operands:=by simp [hop,Op.operands]
 have hnd:∀ c,o.op ≠ .defer c:=by simp_all
 split at h
 .exact (av h).elim
 .rename_i x' d hni hx hu
  have h':aal t x' id ph e H k=1:=h
  unfold aal at h'
  rw [aq]at h'
  refine ⟨_,_,fq.bH hnd λm w ac ho=>?_,h'⟩
  have v:=ho x mem x' hx
  refine ⟨.iface t (ac.eval x),?_,by simp only [VR];simp_all⟩
  simp only [execOp,hop,Instr.makeInterface,Sem.run_bind,run_underlying hu,Result.andThen_ok]
  rfl
 .exact (av h).elim
theorem CX {x} {xt t} {ok} (hop:o.op = .typeAssert x xt t ok) (h:aL (ai P nt o) id ph e H k=1):Good P nt o e H k:=by
 simp only [ai,hop]at h
 have mem:x ∈ o.op.operands:=by simp [hop,Op.operands]
 have hnd:∀ c,o.op ≠ .defer c:=by simp_all
 split at h
 .exact (av h).elim
 .rename_i x' d hni hx hu
  have h':aar t x' id ph e H k=1:=h
  unfold aar at h'
  rw [aq]at h'
  obtain ⟨u,hv,h2⟩:=abw h'
  refine ⟨_,_,fq.bH hnd λm w ac ho=>?_,h2⟩
  have v:=ho x mem x' hx
  rw [hv]at v
  obtain ⟨cu,hc,hcu⟩:=v
  refine ⟨.tuple #[cu,.bool true],?_,by exact ⟨_,rfl,by exact ⟨_,_,rfl,hcu,_,_,rfl,by rfl,rfl⟩⟩⟩
  simp only [execOp,hop,hc,Instr.typeAssert,Sem.run_bind,run_underlying hu,Result.andThen_ok]
  rfl
 .exact (av h).elim
theorem jf {m} {ac:Act}:∀ {l} {r},bU nt l=some r->(∀ x ∈ l,∀ ar,aH nt x=some ar->VR m (ay ar e) (ac.eval x))->cm m (r.map (ay · e)) (l.map ac.eval)
 | [],r,h,_=>by simp only [bU,Option.some.injEq]at h;subst h;rfl
 | x :: l,r,h,ho=>by
  simp only [bU]at h
  split at h
  .rename_i a r' h1 h2
   cases h
   exact ⟨_,_,rfl,ho x (YJ ..) a h1,jf h2 λy hy=>ho y (YI _ hy)⟩
  simp_all
theorem KQ {f} {first caps} (hop:o.op = .makeFunc (.func f) first caps) (h:aL (ai P nt o) id ph e H k=1):Good P nt o e H k:=by
 simp only [ai,hop]at h
 have hnd:∀ c,o.op ≠ .defer c:=by simp_all
 split at h
 .rename_i l hf hl
  have h':Rp (2*f) l id ph e H k=1:=h
  unfold Rp at h'
  rw [ia]at h'
  refine ⟨_,_,fq.bH hnd λm w ac ho=>?_,h'⟩
  have hf':first = #[]:=by simp_all
  subst hf'
  refine ⟨.func (.func f) #[] (caps.map ac.eval),by simp [execOp,hop,Instr.makeFunc],?_⟩
  simp only [VR]
  have:=jf hl λx hx=>ho x (by simp [hop,Op.operands];simp_all)
  simp_all
 .rename_i q qs hf hc
  split at h
  .rename_i l hl
   have h':Rp (2*f+1) l id ph e H k=1:=h
   unfold Rp at h'
   rw [ia]at h'
   refine ⟨_,_,fq.bH hnd λm w ac ho=>?_,h'⟩
   have hcl:caps.toList=[]:=by
    cases hct:caps.toList with
    | nil=>rfl
    | cons y ys=>
     rw [hct]at hc
     simp only [bU]at hc
     grind
   have hc':caps = #[]:=by simp_all
   subst hc'
   refine ⟨.func (.func f) (first.map ac.eval) #[],by simp [execOp,hop,Instr.makeFunc],?_⟩
   refine ⟨first.map ac.eval,by simp [Nat.mul_add_div],?_⟩
   have:=jf hl λx hx=>ho x (by simp [hop,Op.operands];grind)
   simp_all
  .exact (av h).elim
 .exact (av h).elim
theorem On {x} {i} (hop:o.op = .extract x i) (h:aL (ai P nt o) id ph e H k=1):Good P nt o e H k:=by
 simp only [ai,hop]at h
 have mem:x ∈ o.op.operands:=by simp [hop,Op.operands]
 have hnd:∀ c,o.op ≠ .defer c:=by simp_all
 split at h
 .rename_i x' hx
  have h':Rf x' i id ph e H k=1:=h
  unfold Rf at h'
  rw [aq]at h'
  obtain ⟨l,hl,h1⟩:=Xt h'
  obtain ⟨v,hv,h2⟩:=tV h1
  refine ⟨_,_,fq.bH hnd λm w ac ho=>?_,h2⟩
  have vx:=ho x mem x' hx
  rw [hl]at vx
  obtain ⟨cs,hcs,hr⟩:=vx
  obtain ⟨c,hc,hvr⟩:=hr.get hv
  refine ⟨c,?_,hvr⟩
  have hc':cs[i]? = some c:=by simp_all
  simp [execOp,hop,hcs,Instr.extract,hc']
 .exact (av h).elim
theorem HL {t} {x} {f} (hop:o.op = .fieldAddr t x f) (h:aL (ai P nt o) id ph e H k=1):Good P nt o e H k:=by
 simp only [ai,hop]at h
 have mem:x ∈ o.op.operands:=by simp [hop,Op.operands]
 have hnd:∀ c,o.op ≠ .defer c:=by simp_all
 split at h
 .rename_i x' fs hx hu
  split at h
  .rename_i fd hfd
   split at h
   .rename_i n hsz
    have h':Rg fd.offset x' id ph e H k=1:=h
    unfold Rg at h'
    rw [aq]at h'
    obtain ⟨b,off,hb,h1⟩:=fU h'
    rw [aw]at h1
    refine ⟨_,_,fq.bH hnd λm w ac ho=>?_,h1⟩
    have vx:=ho x mem x' hx
    rw [hb]at vx
    obtain ⟨c,hc,hm⟩:=vx
    refine ⟨.pointer (some ⟨c,off+fd.offset,none⟩),?_,by simp only [VR];simp_all⟩
    simp only [qI,Ye]at hsz
    obtain ⟨ti,hti,hsz⟩:=hsz
    have hs:(sizeOf fd.type).run P w = .ok (n+1) w:=by
     simp [sizeOf,typeInfo,hti,hsz]
    simp [execOp,hop,hc,Instr.fieldAt,run_underlying hu,hfd,Instr.sureAddr,fieldPlace,hs,Addr.add_lit]
   .exact (av h).elim
  .exact (av h).elim
 .exact (av h).elim
theorem gi {t} {cs} {off} {l} {m} (hr:cm m l cs.toList) {w}:
 (∀ n,lN P t=some true->qI P t=some n->off+n<=l.length->∃ q:Array Value,(part t cs off).run P w = .ok (.agg q) w/\cm m ((l.drop off).take n) q.toList)/\
 (∀ v,lN P t=some false->l[off]? = some v->∃ c,(part t cs off).run P w = .ok c w/\VR m v c):=by
 have hlen:=hr.length
 constructor
 .intro n ha hs hle
  have hag:(isAgg t).run P w = .ok true w:=by
   unfold lN at ha
   split at ha<;>simp at ha
   all_goals (rename_i hu;simp [isAgg,run_underlying hu])
  simp only [qI,Ye]at hs
  obtain ⟨ti,hti,hsz⟩:=hs
  have hsz':(sizeOf t).run P w = .ok n w:=by simp [sizeOf,typeInfo,hti,hsz]
  refine ⟨cs.extract off (off+n),by simp [part,hag,hsz'],?_⟩
  refine cm.pO ?_ λi v c h1 h2=>?_
  .simp_all
  .rw [Yu]at h1
   split at h1
   .rw [Yy]at h1
    obtain ⟨c',h3,h4⟩:=hr.get h1
    simp_all
   simp_all
 .intro v ha hv
  have hag:(isAgg t).run P w = .ok false w:=by
   unfold lN at ha
   split at ha<;>simp at ha
   rename_i d h1 h2 hu
   simp only [isAgg,Sem.run_bind,run_underlying hu,Result.andThen_ok]
   rfl
  obtain ⟨c,h3,h4⟩:=hr.get hv
  rw [Yw]at h3
  exact ⟨c,by simp [part,hag,h3],h4⟩
theorem Xg {t} {x} {f} (hop:o.op = .field t x f) (h:aL (ai P nt o) id ph e H k=1):Good P nt o e H k:=by
 simp only [ai,hop]at h
 have mem:x ∈ o.op.operands:=by simp [hop,Op.operands]
 have hnd:∀ c,o.op ≠ .defer c:=by simp_all
 split at h
 .rename_i x' fs hx hu
  split at h
  .rename_i fd hfd
   split at h
   .rename_i n hag hsz
    have h':Ri fd.offset n x' id ph e H k=1:=h
    unfold Ri at h'
    rw [aq]at h'
    obtain ⟨l,hl,h1⟩:=qA h'
    obtain ⟨h2,h3⟩:=mw h1
    obtain ⟨h4,h5⟩:=kW h3
    refine ⟨_,_,fq.bH hnd λm w ac ho=>?_,h5⟩
    have vx:=ho x mem x' hx
    rw [hl]at vx
    obtain ⟨cs,hc,hr⟩:=vx
    obtain ⟨q,hq,hqr⟩:=(gi (off:=fd.offset) hr (w:=w)).1 n hag hsz (by grind)
    exact ⟨.agg q,by simp [execOp,hop,hc,Instr.field,run_underlying hu,hfd,asAgg,hq],by simp only [VR];simp_all⟩
   .rename_i n hag hsz
    have h':Rh fd.offset x' id ph e H k=1:=h
    unfold Rh at h'
    rw [aq]at h'
    obtain ⟨l,hl,h1⟩:=qA h'
    obtain ⟨v,h2,h3⟩:=tV h1
    refine ⟨_,_,fq.bH hnd λm w ac ho=>?_,h3⟩
    have vx:=ho x mem x' hx
    rw [hl]at vx
    obtain ⟨cs,hc,hr⟩:=vx
    obtain ⟨q,hq,hqr⟩:=(gi hr (w:=w)).2 v hag h2
    exact ⟨q,by simp [execOp,hop,hc,Instr.field,run_underlying hu,hfd,asAgg,hq],hqr⟩
   .exact (av h).elim
  .exact (av h).elim
 .exact (av h).elim
theorem Cj {i'} {len} {c} (h:idx id i' e len c=1):∃ n,c n=1/\n<len/\∀ (m) (cv),VR m (ay i' e) cv->∃ kd,cv = .int kd n:=by
 unfold idx at h
 rw [aq]at h
 obtain ⟨kd,n,hn,h1⟩:=dK h
 obtain ⟨h2,h3⟩:=aQ h1
 obtain ⟨h4,h5⟩:=aQ h3
 obtain ⟨h6,h7⟩:=aQ h5
 refine ⟨n,h7,eO h4,λm cv hv=>?_⟩
 rw [hn]at hv
 exact ⟨pC kd,by rw [hv.1,toI_64 (cA h2) hv.2.2 (eO h6) hv.2.1]⟩
theorem cK {t} {n} (h:qI P t=some n) (w):(sizeOf t).run P w = .ok n w:=by
 simp only [qI,Ye]at h
 obtain ⟨ti,hti,hsz⟩:=h
 simp [sizeOf,typeInfo,hti,hsz]
theorem HM {t:TypeId} {x i:Operand} (hop:o.op = .indexAddr t x i) (h:aL (ai P nt o) id ph e H k=1):Good P nt o e H k:=by
 simp only [ai,hop]at h
 have mem:x ∈ o.op.operands/\i ∈ o.op.operands:=by simp [hop,Op.operands]
 have hnd:∀ c,o.op ≠ .defer c:=by simp [hop]
 split at h
 .rename_i x' i' len el hx hi hu
  split at h
  .rename_i s hs
   have h':aah len s x' i' id ph e H k=1:=h
   unfold aah at h'
   rw [aq]at h'
   obtain ⟨b,off,hb,h1⟩:=fU h'
   obtain ⟨n,h2,h3,h4⟩:=Cj h1
   rw [aw]at h2
   refine ⟨_,_,fq.bH hnd λm w ac ho=>?_,h2⟩
   have vx:=ho x mem.1 x' hx
   obtain ⟨kd,hki⟩:=h4 m _ (ho i mem.2 i' hi)
   rw [hb]at vx
   simp only [VR]at vx
   obtain ⟨c,hc,hm⟩:=vx
   refine ⟨.pointer (some ⟨c,off+n*s,none⟩),?_,by simp only [VR];grind⟩
   have hlt:(0:Int)<=(n:Int)/\(n:Int)<(len:Int):=by omega
   simp [execOp,hop,hc,hki,Instr.indexAt,asIntOf,run_underlying hu,Instr.sureAddr,cK hs,h3,Addr.add_lit]
  .exact (av h).elim
 .rename_i x' i' el hx hi hu
  split at h
  .rename_i s hs
   have h':aak s x' i' id ph e H k=1:=h
   unfold aak at h'
   rw [aq]at h'
   obtain ⟨b,off,len,cp,sz,hb,h1⟩:=OK h'
   obtain ⟨n,h2,h3,h4⟩:=Cj h1
   rw [aw]at h2
   refine ⟨_,_,fq.bH hnd λm w ac ho=>?_,h2⟩
   have vx:=ho x mem.1 x' hx
   obtain ⟨kd,hki⟩:=h4 m _ (ho i mem.2 i' hi)
   rw [hb]at vx
   obtain ⟨c,cap,o',sp,hc,hm,hle,hcp,ho'⟩:=vx
   obtain ⟨rfl,rfl⟩:o'=off/\sp=none:=by
    grind
   refine ⟨.pointer (some ⟨c,o'+n*s,none⟩),?_,by simp only [VR];grind⟩
   simp [execOp,hop,hc,hki,Instr.indexAt,asIntOf,run_underlying hu,cK hs,h3,Addr.add_lit]
  .exact (av h).elim
 .exact (av h).elim
theorem Xh {t:TypeId} {x i:Operand} (hop:o.op = .index t x i) (h:aL (ai P nt o) id ph e H k=1):Good P nt o e H k:=by
 simp only [ai,hop]at h
 have mem:x ∈ o.op.operands/\i ∈ o.op.operands:=by simp [hop,Op.operands]
 have hnd:∀ c,o.op ≠ .defer c:=by simp [hop]
 split at h
 .rename_i x' i' hx hi hu
  have h':aaj x' i' id ph e H k=1:=h
  unfold aaj at h'
  rw [aq]at h'
  obtain ⟨len,mm,hb,h1⟩:=eD h'
  obtain ⟨n,h2,h3,h4⟩:=Cj h1
  rw [aw]at h2
  refine ⟨_,_,fq.bH hnd λm w ac ho=>?_,h2⟩
  have vx:=ho x mem.1 x' hx
  obtain ⟨kd,hki⟩:=h4 m _ (ho i mem.2 i' hi)
  rw [hb]at vx
  simp only [VR]at vx
  have hg:=rE len mm n h3
  have e1:Qt (WC mm (Yj 8 n)) 255=(UInt8.ofNat (mm/256 ^ n%256)).toNat:=by
   show (mm >>> (8*n)) &&& 255=_
   rw [WG,QS,show (255:Nat)=2 ^ 8-1 by rfl,QO,toNat_byte]
  rw [e1]
  refine ⟨.int .u8 (UInt8.ofNat (mm/256 ^ n%256)).toNat,?_,vD m _⟩
  have hlen:(aB len mm).length=len:=aK len mm
  have hbg:(⟨(aB len mm).toArray⟩:ByteArray)[n]? = some (UInt8.ofNat (mm/256 ^ n%256)):=by
   have hlt:n<(⟨(aB len mm).toArray⟩:ByteArray).size:=by simp [ByteArray.size,hlen,h3]
   rw [getElem?_pos (⟨(aB len mm).toArray⟩:ByteArray) n hlt]
   congr 1
   have:(aB len mm)[n]'(by omega)=UInt8.ofNat (mm/256 ^ n%256):=by
    grind
   rw [<- this]
   rfl
  simp [execOp,hop,vx.1,hki,Instr.index,asIntOf,run_underlying hu,hbg]
 .rename_i x' i' len el hx hi hu
  split at h
  .rename_i s ag hs hag
   have h':aai len s ag x' i' id ph e H k=1:=h
   unfold aai at h'
   rw [aq]at h'
   obtain ⟨l,hb,h1⟩:=qA h'
   obtain ⟨n,h2,h3,h4⟩:=Cj h1
   rcases bP h2 with ⟨h5,h6⟩|⟨h5,h6⟩
   .subst h5
    obtain ⟨h7,h8⟩:=mw h6
    obtain ⟨h9,h10⟩:=kW h8
    refine ⟨_,_,fq.bH hnd λm w ac ho=>?_,h10⟩
    have vx:=ho x mem.1 x' hx
    obtain ⟨kd,hki⟩:=h4 m _ (ho i mem.2 i' hi)
    rw [hb]at vx
    simp only [VR]at vx
    obtain ⟨cs,hc,hr⟩:=vx
    have h7':n*s<=l.length:=h7
    obtain ⟨q,hq,hqr⟩:=(gi (P:=P) (t:=el) (off:=n*s) hr (w:=w)).1 s hag hs (by
     grind)
    exact ⟨.agg q,by simp [execOp,hop,hc,hki,Instr.index,asIntOf,run_underlying hu,cK hs,h3,hq],by simp only [VR];grind⟩
   .subst h5
    obtain ⟨v,h7,h8⟩:=tV h6
    refine ⟨_,_,fq.bH hnd λm w ac ho=>?_,h8⟩
    have vx:=ho x mem.1 x' hx
    obtain ⟨kd,hki⟩:=h4 m _ (ho i mem.2 i' hi)
    rw [hb]at vx
    obtain ⟨cs,hc,hr⟩:=vx
    obtain ⟨q,hq,hqr⟩:=(gi (P:=P) (t:=el) (off:=n*s) hr (w:=w)).2 v hag h7
    exact ⟨q,by simp [execOp,hop,hc,hki,Instr.index,asIntOf,run_underlying hu,cK hs,h3,hq],hqr⟩
  .exact (av h).elim
 .exact (av h).elim
end
end Go.Ev
end
section
namespace Go.Ev
open Go.RowKit
section
variable {P:Program} {nt:Nat} {o:Oper} {id:Nat} {ph:cU} {e:Env} {H:Heap} {k:K}
def ab0 (P:Program) (c:Nat) (a b:V) (r:Bool):Prop:=∀ (m:M) (cx cy:Value),VR m a cx->VR m b cy->∀ (dd:Nat) (t:TypeId) (w:World),(c=0->P.underlying t=some .bool)->(c=1->∃ q,P.underlying t=some (.int q))->(2<=c->P.underlying t=some .string)->(Op.equalIn (dd+1) t cx cy).run P w = .ok r w
theorem NK {c} {x y} {k} (h:J2 id c x y k=1):∃ r,k r=1/\ab0 P c x y r:=by
 match c,h with
 | 0,h=>
  have h':eV id x (λa=>eV id y λb=>aF a (k b) (aF b (k false) (k true)))=1:=h
  obtain ⟨a,rfl,h1⟩:=mR h'
  obtain ⟨b,rfl,h2⟩:=mR h1
  refine ⟨a == b,by cases a<;>cases b<;>exact h2,λm cx cy vx vy dd t w h0 _ _=>?_⟩
  subst vx vy
  exact run_equalIn_bool' w dd t a b (h0 rfl)
 | 1,h=>
  have h':cC id x (λk1 a=>cC id y λk2 b=>aF (YM k1 k2) (k (YM a b)) (no _))=1:=h
  obtain ⟨k1,a,rfl,h1⟩:=dK h'
  obtain ⟨k2,b,rfl,h2⟩:=dK h1
  obtain ⟨h3,h4⟩:=aQ h2
  have:=cI h3
  subst this
  refine ⟨_,h4,λm cx cy vx vy dd t w _ h1 _=>?_⟩
  obtain ⟨q,hq⟩:=h1 rfl
  rw [vx.1,vy.1,run_equalIn_int w dd t _ q _ _ hq,fS]
  by_cases hab:a=b
  .simp_all
  .have:=λe=>hab (toI_inj _ vx.2.1 vy.2.1 e)
   simp_all
 | c+2,h=>
  have h':ej id x (λl1 a=>ej id y λl2 b=>aF (YM l1 l2) (k (YM a b)) (k false))=1:=h
  obtain ⟨l1,a,rfl,h1⟩:=eD h'
  obtain ⟨l2,b,rfl,h2⟩:=eD h1
  have hf:k (decide (l1=l2) && decide (a=b))=1:=by
   rcases bP h2 with ⟨h3,h4⟩|⟨h3,h4⟩
   .rw [fS]at h3 h4
    simp_all
   .rw [fS]at h3
    simp_all
  refine ⟨_,hf,λm cx cy vx vy dd t w _ _ h2=>?_⟩
  rw [vx.1,vy.1,run_equalIn_string w dd t _ _ (h2 (by omega))]
  congr 1
  rw [ByteArray.toList_eq,ByteArray.toList_eq]
  by_cases hl:l1=l2
  .subst hl
   by_cases hab:a=b
   .simp_all
   .simp only [hab,decide_false,Bool.and_false,beq_eq_false_iff_ne,ne_eq]
    intro e
    exact hab (rF vx.2 vy.2 (by omega))
  .simp only [hl,decide_false,Qo,beq_eq_false_iff_ne,ne_eq]
   intro e
   have:=congrArg Wv e
   simp [aK]at this
   omega
def MJ (P:Program):List Nat->List V->List V->Bool->Prop
 | [],_,_,b=>b=true
 | c :: cls,l,m,b=>∃ a l' a' m' r,l=a :: l'/\m=a' :: m'/\ab0 P c a a' r/\(r=true->MJ P cls l' m' b)/\(r=false->b=false)
theorem Mc:∀ {cls} {l m} {k},jj id cls l m k=1->∃ b,k b=1/\MJ P cls l m b
 | [],l,m,k,h=>⟨true,h,rfl⟩
 | c :: cls,[],m,k,h=>(av h).elim
 | c :: cls,a :: l,[],k,h=>(av h).elim
 | c :: cls,a :: l,a' :: m,k,h=>by
  have h':=h
  obtain ⟨r,h1,h2⟩:=NK h'
  cases r with
  | true=>
   obtain ⟨b,h3,h4⟩:=Mc (show jj id cls l m k=1 from h1)
   exact ⟨b,h3,a,l,a',m,true,rfl,rfl,h2,λ_=>h4,λh=>(by cases h)⟩
  | false=>exact ⟨false,h1,a,l,a',m,false,rfl,rfl,h2,λh=>(by cases h),λ_=>rfl⟩
theorem MJ.split:∀ {c r:List Nat} {l m:List V} {b:Bool},MJ P (c ++ r) l m b->∃ b1,MJ P c (l.take c.length) (m.take c.length) b1/\(b1=true->MJ P r (l.drop c.length) (m.drop c.length) b)/\(b1=false->b=false)
 | [],r,l,m,b,h=>⟨true,rfl,λ_=>by simpa using h,λh=>(by cases h)⟩
 | c :: cs,r,l,m,b,h=>by
  obtain ⟨a,l',a',m',q,rfl,rfl,h1,h2,h3⟩:=h
  cases q with
  | true=>
   obtain ⟨b1,h4,h5,h6⟩:=MJ.split (h2 rfl)
   exact ⟨b1,⟨a,_,a',_,true,rfl,rfl,h1,λ_=>h4,λh=>(by cases h)⟩,λe=>by simpa using h5 e,h6⟩
  | false=>exact ⟨false,⟨a,_,a',_,false,rfl,rfl,h1,λh=>(by cases h),λ_=>rfl⟩,λh=>(by cases h),λ_=>h3 rfl⟩
theorem tH {t} {d} {c} (h:vd P (d+1) t=some c):(lN P t=some false/\∃ q,c=[q]/\(q=0->P.underlying t=some .bool)/\(q=1->∃ kd,P.underlying t=some (.int kd))/\(2<=q->P.underlying t=some .string))\/
 (lN P t=some true/\P.underlying t=some (.struct (P.fieldsOf t))/\P.stoodInHeld t=false/\ux P (vd P d) (P.fieldsOf t).toList 0=some c):=by
 simp only [vd]at h
 split at h
 .rename_i hu;cases h;exact YG ⟨by simp [lN,hu],0,rfl,λ_=>hu,λh=>(by omega),λh=>(by omega)⟩
 .rename_i q hu;cases h;exact YG ⟨by simp [lN,hu],1,rfl,λh=>(by omega),λ_=>⟨q,hu⟩,λh=>(by omega)⟩
 .rename_i hu;cases h;exact YG ⟨by simp [lN,hu],2,rfl,λh=>(by omega),λh=>(by omega),λ_=>hu⟩
 .rename_i fs hu
  split at h
  .cases h
  .have hf:P.fieldsOf t=fs:=by simp [Program.fieldsOf,hu]
   exact YE ⟨by simp [lN,hu],by simp_all,by simp_all,by simp_all⟩
 simp_all
theorem tP {m:M} {w:World}:∀ (d:Nat) (t:TypeId) (c:List Nat),vd P d t=some c->∀ (dd:Nat),d<=dd->∀ (cx cy:Value) (l l':List V) (b:Bool),MJ P c l l' b->l.length=c.length->l'.length=c.length->
 ((lN P t=some false->∃ v v':V,l=[v]/\l'=[v']/\VR m v cx/\VR m v' cy)/\(lN P t=some true->∃ xs ys,cx = .agg xs/\cy = .agg ys/\cm m l xs.toList/\cm m l' ys.toList))->(Op.equalIn dd t cx cy).run P w = .ok b w
 | 0,t,c,h,_,_,_,_,_,_,_,_,_,_,_=>by simp [vd]at h
 | d+1,t,c,h,0,hdd,_,_,_,_,_,_,_,_,_=>by omega
 | d+1,t,c,h,dd+1,hdd,cx,cy,l,l',b,heq,hl1,hl2,hv=>by
  rcases tH h with ⟨ha,q,rfl,h0,h1,h2⟩|⟨ha,hu,hs,hf⟩
  .obtain ⟨v,v',rfl,rfl,v1,v2⟩:=hv.1 ha
   obtain ⟨a,r1,a',r2,r,e1,e2,hl,g1,g2⟩:=heq
   cases e1;cases e2
   have hr:=hl m cx cy v1 v2 dd t w h0 h1 h2
   cases r with
   | true=>
    have:b=true:=g1 rfl
    grind
   | false=>grind
  .obtain ⟨xs,ys,rfl,rfl,v1,v2⟩:=hv.2 ha
   rw [run_equalIn_struct w dd t xs ys hu hs]
   clear h ha hu hs hv
   generalize (P.fieldsOf t).toList=fs at hf
   have key:∀ (fs:List Field) (off:Nat) (c:List Nat) (b:Bool),ux P (vd P d) fs off=some c->MJ P c (l.drop off) (l'.drop off) b->l.length=off+c.length->l'.length=off+c.length->(Op.eqFields dd xs ys fs).run P w = .ok b w:=by
    intro fs
    induction fs with
    | nil=>
     intro off c b hc he _ _
     simp only [ux,Option.some.injEq]at hc
     subst hc
     have:b=true:=he
     subst this
     simp [Op.eqFields]
    | cons f fs ih=>
     intro off c b hc he hle hle'
     simp only [ux]at hc
     split at hc
     .cases hc
     .rename_i hn
      split at hc
      .rename_i cf s r h1 h2 h3
       split at hc
       .rename_i h4
        cases hc
        rw [Bool.and_eq_true]at h4
        have hoff:f.offset=off:=by grind
        have hsz:s=cf.length:=by grind
        rw [h2]at h3
        simp only [Yl]at h3
        obtain ⟨b1,g1,g2,g3⟩:=MJ.split he
        have hn':f.name ≠ "_":=by grind
        have hd:∃ d',d=d'+1:=by
         cases d with
         | zero=>simp [vd]at h1
         | succ d'=>grind
        obtain ⟨d',rfl⟩:=hd
        have hpart:∃ p p',(part f.type xs f.offset).run P w = .ok p w/\(part f.type ys f.offset).run P w = .ok p' w/\(Op.equalIn dd f.type p p').run P w = .ok b1 w:=by
         rw [hoff]
         rcases tH h1 with ⟨ha,q,rfl,_⟩|⟨ha,_⟩
         .have g1':=g1
          obtain ⟨a,r1,a',r2,rr,e1,e2,_⟩:=g1'
          have e1':l[off]? = some a:=by
           have:=congrArg (λz=>z[0]?) e1
           grind
          have e2':l'[off]? = some a':=by
           have:=congrArg (λz=>z[0]?) e2
           grind
          obtain ⟨p,q1,q2⟩:=(gi (P:=P) (t:=f.type) (off:=off) v1 (w:=w)).2 a ha e1'
          obtain ⟨p',q3,q4⟩:=(gi (P:=P) (t:=f.type) (off:=off) v2 (w:=w)).2 a' ha e2'
          have hone:∀ (z:List V) (x:V) (r:List V),(z.drop off).take 1=x :: r->(z.drop off).take 1=[x]:=λz x r e=>by
           have hl:=congrArg Wv e
           grind
          exact ⟨p,p',q1,q3,tP (d'+1) f.type _ h1 dd (by omega) p p' _ _ b1 g1 ((congrArg Wv (hone _ _ _ e1)).trans rfl) ((congrArg Wv (hone _ _ _ e2)).trans rfl) ⟨λ_=>⟨a,a',hone _ _ _ e1,hone _ _ _ e2,q2,q4⟩,λh=>(by grind)⟩⟩
         .rw [YC]at hle hle'
          obtain ⟨p,q1,q2⟩:=(gi (P:=P) (t:=f.type) (off:=off) v1 (w:=w)).1 s ha h2 (by omega)
          obtain ⟨p',q3,q4⟩:=(gi (P:=P) (t:=f.type) (off:=off) v2 (w:=w)).1 s ha h2 (by omega)
          rw [hsz]at q2 q4
          exact ⟨_,_,q1,q3,tP (d'+1) f.type _ h1 dd (by omega) _ _ _ _ b1 g1 (by grind) (by grind) ⟨λh=>(by grind),λ_=>⟨_,_,rfl,rfl,q2,q4⟩⟩⟩
        obtain ⟨p,p',q1,q2,q3⟩:=hpart
        simp only [Op.eqFields,hn',ne_eq,not_false_eq_true,if_true,Sem.run_bind,q1,q2,q3,Result.andThen_ok]
        cases b1 with
        | true=>
         simp only [Bool.not_true,YT,if_false]
         rw [YC]at hle hle'
         refine ih _ r b h3 ?_ (by omega) (by omega)
         have:=g2 rfl
         rw [QA,QA]at this
         grind
        | false=>
         rw [g3 rfl]
         simp
       .cases hc
      .cases hc
   exact key fs 0 c b hf (by grind) (by omega) (by omega)
theorem xX:∀ l:List Nat,AJ l=l.length
 | []=>rfl
 | a :: l=>by show WN (AJ l)=_;rw [xX l];rfl
theorem wF {op} {xt yt} {x y} {x' y'} {c} (hop:o.op = .binOp op xt x y yt) (hx:aH nt x=some x') (hy:aH nt y=some y')
 (hrun:∀ (m) (w) (xs ys) (l l') (b),MJ P c l l' b->l.length=c.length->l'.length=c.length->cm m l xs.toList->cm m l' ys.toList->(Op.equalIn 10000 xt (.agg xs) (.agg ys)).run P w = .ok b w)
 (h:aL (je P op xt c x' y') id ph e H k=1):Good P nt o e H k:=by
 have mem:x ∈ o.op.operands/\y ∈ o.op.operands:=by simp [hop,Op.operands]
 have hnd:∀ c,o.op ≠ .defer c:=by simp_all
 unfold je at h
 split at h
 .exact (av h).elim
 rename_i hg
 have hg':P.eqGuardType P.depth xt=false:=by simp_all
 have key:∀ neg,(op=if neg then .neq else .eql)->JA c neg x' y' id ph e H k=1->Good P nt o e H k:=by
  intro neg hneg h'
  unfold JA at h'
  rw [aq]at h'
  obtain ⟨l,hl,h1⟩:=qA h'
  rw [aq]at h1
  obtain ⟨l',hl',h2⟩:=qA h1
  obtain ⟨h3,h4⟩:=aQ h2
  obtain ⟨h5,h6⟩:=aQ h4
  have e1:=cI h3
  have e2:=cI h5
  rw [jR,xX]at e1 e2
  obtain ⟨b,h7,h8⟩:=Mc h6
  have h9:k (.bool (if neg then !b else b)) H=1:=by
   rcases bP h7 with ⟨rfl,h10⟩|⟨rfl,h10⟩
   .rcases bP h10 with ⟨rfl,h11⟩|⟨rfl,h11⟩<;>exact h11
   simp_all
  refine ⟨_,_,fq.bH hnd λm w ac ho=>?_,h9⟩
  have vx:=ho x mem.1 x' hx
  have vy:=ho y mem.2 y' hy
  rw [hl]at vx
  rw [hl']at vy
  obtain ⟨xs,hcx,v1⟩:=vx
  obtain ⟨ys,hcy,v2⟩:=vy
  have hr:=hrun m w xs ys l l' b h8 e1 e2 v1 v2
  refine ⟨.bool (if neg then !b else b),?_,by rfl⟩
  have hgr:=run_eqGuard_agg w op xt x y xs ys hg'
  simp only [execOp,hop,hcx,hcy,Sem.run_bind,hgr,Result.andThen_ok]
  cases neg with
  | true=>
   have:=run_neq_struct (P:=P) w xt xs ys
   simp_all
  | false=>
   have:=run_eql_struct (P:=P) w xt xs ys
   simp_all
 split at h
 .exact key false (by simp) h
 .exact key true (by simp) h
 .exact (av h).elim
theorem I6 {op} {xt yt} {x y} {x' y'} {fs} (hop:o.op = .binOp op xt x y yt) (hx:aH nt x=some x') (hy:aH nt y=some y') (hu:P.underlying xt=some (.struct fs))
 (h:aL (mj P op xt x' y') id ph e H k=1):Good P nt o e H k:=by
 unfold mj at h
 split at h
 rotate_left
 .exact (av h).elim
 rename_i c hc
 exact wF hop hx hy (λm w xs ys l l' b h8 e1 e2 v1 v2=>tP 4 xt c hc 10000 (by omega) (.agg xs) (.agg ys) l l' b h8 e1 e2 ⟨λh=>by simp [lN,hu]at h,λ_=>⟨xs,ys,rfl,rfl,v1,v2⟩⟩) h
theorem Nr {xt el} {n q} (hu:P.underlying xt=some (.array n el)) (hc:vd P 1 el=some [q]) (hs:qI P el=some 1) (d) (m) (w) (xs ys) (l l') (b) (h:MJ P (YZ n q) l l' b)
 (hv:cm m l xs.toList) (hv':cm m l' ys.toList):(Op.equalIn (d+2) xt (.agg xs) (.agg ys)).run P w = .ok b w:=by
 rcases tH hc with ⟨ha,q',he,h0,h1,h2⟩|⟨_,_,_,hf⟩
 .cases he
  obtain ⟨i,hi,hsz⟩:=Ye.1 hs
  have hcell:P.cellsOf el=1:=by simp [Program.cellsOf,hi,hsz]
  rw [run_equalIn_array w (d+1) xs ys hu hi,hcell,List.range_eq_range']
  have key:∀ (r j) (b),MJ P (YZ r q) (l.drop j) (l'.drop j) b->(Op.eqItems (d+1) el 1 xs ys (List.range' j r)).run P w = .ok b w:=by
   intro r
   induction r with
   | zero=>
    intro j b hb
    have:=hb
    subst this
    rfl
   | succ r ih=>
    intro j b hb
    obtain ⟨a,l1,a',l1',rr,e1,e2,hl,g1,g2⟩:=hb
    have ea:=by
     have:=congrArg (λz=>z[0]?) e1
     simpa using this
    have ea':=by
     have:=congrArg (λz=>z[0]?) e2
     simpa using this
    have et:l.drop (j+1)=l1:=by
     have:=congrArg (List.drop 1) e1
     rw [QA]at this
     simp_all
    have et':l'.drop (j+1)=l1':=by
     have:=congrArg (List.drop 1) e2
     rw [QA]at this
     simp_all
    obtain ⟨p,q1,q2⟩:=(gi hv (w:=w)).2 a ha ea
    obtain ⟨p',q3,q4⟩:=(gi hv' (w:=w)).2 a' ha ea'
    have q5:=hl m p p' q2 q4 d el w h0 h1 h2
    rw [List.range'_succ]
    simp only [Op.eqItems,WS,Sem.run_bind,q1,q3,q5,Result.andThen_ok]
    cases rr with
    | true=>
     grind
    | false=>
     simp_all
  grind
 .revert hf
  generalize (P.fieldsOf el).toList=fs
  intro hf
  cases fs with
  | nil=>simp [ux]at hf
  | cons f fs=>
   simp only [ux]at hf
   split at hf
   .cases hf
   .simp [vd]at hf
theorem Jc {op} {xt yt el} {n} {x y} {x' y'} (hop:o.op = .binOp op xt x y yt) (hx:aH nt x=some x') (hy:aH nt y=some y') (hu:P.underlying xt=some (.array n el))
 (h:aL (mn P op xt n el x' y') id ph e H k=1):Good P nt o e H k:=by
 unfold mn at h
 split at h
 .rename_i q hc hs
  exact wF hop hx hy (λm w xs ys l l' b h8 e1 e2 v1 v2=>Nr hu hc hs 9998 m w xs ys l l' b h8 v1 v2) h
 .exact (av h).elim
theorem Xe {op:BinOp} {xt yt:TypeId} {x y:Operand} (hop:o.op = .binOp op xt x y yt) (h:aL (ai P nt o) id ph e H k=1):Good P nt o e H k:=by
 simp only [ai,hop]at h
 have mem:x ∈ o.op.operands/\y ∈ o.op.operands:=by simp [hop,Op.operands]
 split at h
 rotate_left
 .exact (av h).elim
 rename_i x' y' hx hy
 have hnd:∀ c,o.op ≠ .defer c:=by simp [hop]
 have hex:∀ (ac:Act) (w:World),(execOp ac.eval o).run P w=((do eqGuard op xt x y (ac.eval x) (ac.eval y);binOp op xt (ac.eval x) (ac.eval y):Sem Value).run P w).andThen λv w'=>.ok (.value v) w':=by
  intro ac w
  simp only [execOp,hop,Sem.run_bind,Sem.run_pure]
 unfold qe at h
 split at h
 .rename_i kx hu
  split at h
  .rename_i f hf
   have h':aag (lT kx) f x' y' id ph e H k=1:=h
   unfold aag at h'
   rw [aq]at h'
   obtain ⟨k1,a,ha,h1⟩:=dK h'
   rw [aq]at h1
   obtain ⟨k2,b,hb,h2⟩:=dK h1
   obtain ⟨h3,h4⟩:=aQ h2
   obtain ⟨h5,h6⟩:=aQ h4
   have e3:=cI h3
   have e5:=cI h5
   subst e3 e5
   have h7:k (.bool (dA f a b)) H=1:=by
    rcases bP h6 with ⟨h8,h9⟩|⟨h8,h9⟩<;>rw [h8]<;>exact h9
   refine ⟨_,_,fq.bH hnd λm w ac ho=>?_,h7⟩
   have vx:=ho x mem.1 x' hx
   have vy:=ho y mem.2 y' hy
   rw [ha]at vx
   rw [hb]at vy
   simp only [VR,dI]at vx vy
   refine ⟨.bool (dA f a b),?_,by simp only [VR]⟩
   rw [hex,vx.1,vy.1,Sem.run_bind,nX]
   simp only [Result.andThen_ok,adl hf vx.2.1 vy.2.1]
  .split at h
   .rename_i f hf
    have key:∀ ky:IntKind,((sE op=false/\ky=kx)\/(sE op=true/\(ky.signed=true->ky.bits=64)))->Nd (lT kx) (lT ky) f x' y' id ph e H k=1->Good P nt o e H k:=by
     intro ky hky h'
     obtain ⟨a,b,ha,hb,h1⟩:=B6 h'
     obtain ⟨r,h2,h3⟩:=Pk (P:=P) (t:=xt) (op:=op) (k:=kx) (ky:=ky) hf hky h1
     refine ⟨_,_,fq.bH hnd λm w ac ho=>?_,h2⟩
     have vx:=ho x mem.1 x' hx
     have vy:=ho y mem.2 y' hy
     rw [ha]at vx
     rw [hb]at vy
     simp only [VR,dI]at vx vy
     obtain ⟨h4,h5⟩:=h3 vx.2.1 vy.2.1
     refine ⟨.int kx (toI kx r),?_,by simp only [VR,dI];exact ⟨trivial,h4,xU kx⟩⟩
     rw [hex,vx.1,vy.1,Sem.run_bind,nX]
     simp only [Result.andThen_ok,h5 w]
    split at h
    .rename_i hs
     split at h
     .rename_i ky hky
      split at h
      .rename_i hok
       exact key ky (YE ⟨hs,λhsg=>by simpa [aeT,hsg] using hok⟩) h
      .exact (av h).elim
     .exact (av h).elim
    .rename_i hs
     exact key kx (YG ⟨by simpa using hs,rfl⟩) h
   .exact (av h).elim
 .have strs:∀ (m:M) (ac:Act),OR m nt e ac o->∀ l1 n1 l2 n2,ay x' e = .str l1 n1->ay y' e = .str l2 n2->
   ac.eval x = .string ⟨(aB l1 n1).toArray⟩/\n1<256 ^ l1/\ac.eval y = .string ⟨(aB l2 n2).toArray⟩/\n2<256 ^ l2:=by
   intro m ac ho l1 n1 l2 n2 e1 e2
   have vx:=ho x mem.1 x' hx
   have vy:=ho y mem.2 y' hy
   rw [e1]at vx
   rw [e2]at vy
   simp only [VR]at vx vy
   exact ⟨vx.1,vx.2,vy.1,vy.2⟩
  have cmp:∀ neg:Bool,(op=if neg then .neq else .eql)->Rr neg x' y' id ph e H k=1->Good P nt o e H k:=by
   intro neg hneg h'
   unfold Rr at h'
   rw [aq]at h'
   obtain ⟨l1,n1,h1,h2⟩:=eD h'
   rw [aq]at h2
   obtain ⟨l2,n2,h3,h4⟩:=eD h2
   have h5:k (.bool (if neg then !(decide (l1=l2) && YM n1 n2) else (decide (l1=l2) && YM n1 n2))) H=1:=by
    rcases bP h4 with ⟨h5,h6⟩|⟨h5,h6⟩
    .have:=cI h5
     subst this
     rcases bP h6 with ⟨h7,h8⟩|⟨h7,h8⟩<;>rw [h7]<;>cases neg<;>simp<;>exact h8
    .rw [fS]at h5
     rw [h5]
     cases neg<;>simp<;>exact h6
   refine ⟨_,_,fq.bH hnd λm w ac ho=>?_,h5⟩
   obtain ⟨v1,v2,v3,v4⟩:=strs m ac ho l1 n1 l2 n2 h1 h3
   refine ⟨.bool (if neg then !(decide (l1=l2) && YM n1 n2) else (decide (l1=l2) && YM n1 n2)),?_,by simp only [VR]⟩
   rw [hex,v1,v3,Sem.run_bind,nY]
   have hq:((⟨(aB l1 n1).toArray⟩:ByteArray).toList == (⟨(aB l2 n2).toArray⟩:ByteArray).toList)=(decide (l1=l2) && YM n1 n2):=by
    by_cases hl:l1=l2
    .subst hl
     rw [abp v2 v4];simp
    .rw [decide_eq_false hl,Qo]
     simp only [beq_eq_false_iff_ne,ne_eq,ByteArray.toList_eq]
     intro he
     have:=congrArg Wv he
     simp [aK]at this
     exact hl this
   subst hneg
   cases neg
   .simp only [Result.andThen_ok,YT,if_false,binOp,Op.stringOp,hq,Sem.run_pure]
   .simp only [Result.andThen_ok,if_true,binOp,Op.stringOp,hq,Sem.run_pure]
  split at h
  .have h':Fy x' y' id ph e H k=1:=h
   unfold Fy at h'
   rw [aq]at h'
   obtain ⟨l1,n1,h1,h2⟩:=eD h'
   rw [aq]at h2
   obtain ⟨l2,n2,h3,h4⟩:=eD h2
   rw [aw]at h4
   obtain ⟨h5,h6⟩:=aQ h4
   rw [aw]at h6
   refine ⟨_,_,fq.bH hnd λm w ac ho=>?_,h6⟩
   obtain ⟨v1,v2,v3,v4⟩:=strs m ac ho l1 n1 l2 n2 h1 h3
   have hlt:l1+l2<9223372036854775808:=eO h5
   have e1:Yd n1 (Yt n2 (Yj 8 l1))=n1+256 ^ l1*n2:=by
    show n1+n2 <<< (8*l1)=_
    rw [Qg,QS,Wo]
   have hbig:¬ ((((l1+l2:Nat):Int))>IntKind.i64.max):=by simp [IntKind.max,IntKind.signed,IntKind.bits];omega
   refine ⟨.string ⟨(aB (l1+l2) (n1+256 ^ l1*n2)).toArray⟩,?_,?_⟩
   .rw [hex,v1,v3,Sem.run_bind,nY]
    have hs1:(⟨(aB l1 n1).toArray⟩:ByteArray).size=l1:=by simp [ByteArray.size,aK]
    have hs2:(⟨(aB l2 n2).toArray⟩:ByteArray).size=l2:=by simp [ByteArray.size,aK]
    have happ:(⟨(aB l1 n1).toArray⟩:ByteArray) ++ (⟨(aB l2 n2).toArray⟩:ByteArray)=⟨(aB (l1+l2) (n1+256 ^ l1*n2)).toArray⟩:=by
     apply Go.WideShapes.bytes_inj
     rw [fy _ _ _ _ v2]
     simp [ByteArray.data_append]
    simp only [Result.andThen_ok,binOp,Op.stringOp,hs1,hs2,if_neg hbig,happ,Sem.run_pure]
   .rw [e1]
    simp only [VR]
    refine ⟨rfl,?_⟩
    show n1+256 ^ l1*n2<256 ^ (l1+l2)
    rw [YG0]
    calc n1+256 ^ l1*n2<256 ^ l1+256 ^ l1*n2:=by omega
     _=256 ^ l1*(n2+1):=by rw [Nat.mul_add,WS,Nat.add_comm]
     _<=256 ^ l1*256 ^ l2:=Qr _ v4
  .exact cmp false (by simp) h
  .exact cmp true (by simp) h
  .exact (av h).elim
 .rename_i hu;exact mB hop hx hy (YG ⟨rfl,hu⟩) (λe5=>by cases e5) h
 .rename_i hu;exact mB hop hx hy (YE (YG ⟨rfl,_,hu⟩)) (λe5=>by cases e5) h
 .rename_i hu;exact mB hop hx hy (YE (YE (YG ⟨rfl,_,hu⟩))) (λe5=>by cases e5) h
 .rename_i hu;exact mB hop hx hy (YE (YE (YE (YG ⟨rfl,_,_,hu⟩)))) (λe5=>by cases e5) h
 .rename_i hu;exact mB hop hx hy (YE (YE (YE (YE (YG ⟨rfl,_,_,_,hu⟩))))) (λe5=>by cases e5) h
 .rename_i hu
  split at h
  .rename_i hi
   exact mB hop hx hy (YE (YE (YE (YE (YE ⟨rfl,_,hu⟩))))) (λ_=>by simpa using hi) h
  .exact (av h).elim
 .rename_i fs hu;exact I6 hop hx hy hu h
 .rename_i n el hu;exact Jc hop hx hy hu h
 .exact (av h).elim
 .exact (av h).elim
end
end Go.Ev
end

