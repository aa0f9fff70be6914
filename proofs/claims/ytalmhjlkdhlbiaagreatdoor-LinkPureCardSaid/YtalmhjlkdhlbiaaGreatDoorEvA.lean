/- EvA: a part of the evaluator,of its logic,or of the laws' walk in it. -/
import Derived.Below
import Derived.Calls
import Derived.CallsIn
import Derived.OrdersIn
import Derived.RangeFuncRecord
import Derived.Orders
import Derived.Laws.Sem
import Derived.Laws.Entries
import Derived.KernelRfl
import Derived.Laws.Cells
import Derived.TacticsIn
import Derived.Lib.Strings
import Derived.Laws.Strings
import Derived.WideShapes
import Derived.Laws.StructEq
import Derived.ChangeKeysEq
open Nat renaming le_refl → YA,lt_of_lt_of_le → YC,beq → YL,ble → YS,add → YX,lt_or_ge → Yf,mul → Yg,zero_le → Yk,le_trans → Ym,shiftLeft → Yp,mod → Yr,blt → Yv,shiftRight → Yx,shiftRight_eq_div_pow → Yy,mod_eq_of_lt → Yz,succ → WH,mul_one → WN,ble_eq_true_of_le → WQ,div → WX,lt_of_le_of_lt → Wk,mul_comm → Wl,sub → Wx,and_two_pow_sub_one_eq_mod → QD,pow_mul → QE,pow_succ → QM,le_of_lt → QN,min_eq_left → QT,ne_of_lt → QW,mod_lt → QZ,shiftLeft_eq → Qd,le_of_ble_eq_true → Qj,min_eq_right → Qq,mul_le_mul_left → Qs,land → Qu,pow → YB1,div_lt_of_lt_mul → YD1,mod_mul_right_div_self → YE1,pow_add → YF3,div_div_eq_div_mul → YH2,div_le_self → YI2,xor → YM1,and_le_left → YN3
open List renaming getElem?_eq_getElem → YB,length_append → YD,length_cons → YF,mem_cons_of_mem → YH,mem_cons_self → YI,cons_append → YP,mem_cons → YT,replicate → YZ,map_cons → Yd,getElem?_map → Yh,mem_of_getElem? → Yi,getElem?_append_left → Yq,getElem?_append_right → Ys,getElem?_take → WD,getElem?_drop → WE,range → WT,length → Wo,getElem?_of_mem → QF,getElem?_cons_succ → Qc,drop_drop → Qo,map_take → Qv,map_drop → YD0
open Or renaming inr → YE,inl → YG
open Array renaming getElem?_eq_some_iff → YK,getElem?_toList → Yo,getElem?_modify → Wh
open Bool renaming false_eq_true → YU,false_and → QO,true_and → YG3
open Option renaming map_eq_some_iff → YY,getD_some → Yn
open Int renaming toNat_natCast → Qk,fdiv_eq_ediv_of_nonneg → YE2,emod_eq_of_lt → YF4,mul_emod → YH3
open Prod renaming rec → YG4
set_option linter.unusedVariables false
set_option linter.unusedSimpArgs false
set_option linter.unusedSectionVars false
section
namespace Go.Ev
open Go.RowKit
abbrev R:=Nat
def no (c:Nat):R:=c+2
theorem au {c:Nat} (h:no c=1):False:=by
 have h':c+2=1:=h
 omega
inductive V where
 | int (k n:Nat)
 | bool (b:Bool)
 | str (len n:Nat)
 | ptr (b off:Nat)
 | iS
 | slice (b off len cap sz:Nat)
 | aw
 | map (b:Nat)
 | xc
 | func (f:Nat) (caps:List V)
 | su (b:Nat)
 | tp
 | iface (t:Nat) (v:V)
 | DM
 | agg (l:List V)
 | cE (l:List V)
def lB:IntKind->Nat
 | .i8=>0 | .i16=>1 | .i32=>2 | .i64=>3 | .u8=>4 | .u16=>5 | .u32=>6 | .u64=>7
def oh:Nat->IntKind
 | 0=>.i8 | 1=>.i16 | 2=>.i32 | 3=>.i64 | 4=>.u8 | 5=>.u16 | 6=>.u32 | _=>.u64
theorem dJ (k:IntKind):oh (lB k)=k:=by cases k<;>rfl
theorem wO (k:IntKind):lB k<8:=by cases k<;>decide
inductive I8 where
 | i0 | i1 | i2 | i3 | i4 | i5 | i6 | i7
 deriving DecidableEq
inductive N8 (α:Type) where
 | mk (a0 a1 a2 a3 a4 a5 a6 a7:α)
abbrev Env:=N8 (N8 (N8 V))
inductive Slot where
 | mk (a b c:I8)
 deriving DecidableEq
inductive Arg where
 | s (s:Slot)
 | c (v:V)
inductive BF where
 | add (m:Nat) | sub (m:Nat) | mul (m:Nat) | ad1 | bor | VS | ZZ (m:Nat) | shl (m bits:Nat) | shr (half bits:Nat) | quo (half:Nat) | rem (half:Nat)
inductive CF where
 | eq | ne | lt (o m:Nat) | le (o m:Nat) | gt (o m:Nat) | ge (o m:Nat)
inductive kP where
 | bad
 | kU (x:Arg)
 | pick (c x y:Arg)
 | lD (z:List V)
 | XG (n:Nat)
 | box (x:Arg)
 | build (zero:List V) (parts:List (Nat × Nat × Arg))
 | jP (u8:Bool) (len:Nat) (zero:List V) (parts:List (Nat × Nat × Arg))
 | dm (a:Arg)
 | cM (n:Nat) (a:Arg)
 | fu (a x:Arg)
 | fv (n:Nat) (a x:Arg)
 | OI (x:Arg)
 | bin (kd ky:Nat) (f:BF) (x y:Arg)
 | cmp (kd:Nat) (f:CF) (x y:Arg)
 | Ps (x y:Arg)
 | Pv (neg:Bool) (x y:Arg)
 | eqv (kc:Nat) (neg:Bool) (x y:Arg)
 | Oo (x:Arg)
 | qb (src dst mode c:Nat) (x:Arg)
 | IJ (x:Arg)
 | IK (x:Arg)
 | mkI (t:Nat) (x:Arg)
 | Zu (f:Nat) (caps:List Arg)
 | mkMap
 | mkSlice (u8:Bool) (zero:List V) (l c:Arg)
 | slS (x:Arg) (lo hi:Option Arg)
 | slV (size:Nat) (x:Arg) (lo hi mx:Option Arg)
 | slA (n size:Nat) (x:Arg) (lo hi mx:Option Arg)
 | fW (off:Nat) (x:Arg)
 | Xl (off:Nat) (x:Arg)
 | Sy (off n:Nat) (x:Arg)
 | Xx (len size:Nat) (x i:Arg)
 | A0 (size:Nat) (x i:Arg)
 | ixS (x i:Arg)
 | ixG (len size:Nat) (agg:Bool) (x i:Arg)
 | look (ks:Bool) (zero:V) (ok:Bool) (m x:Arg)
 | XF (ks:Bool) (m x y:Arg)
 | aeB (ks:Bool) (m x:Arg)
 | NW (x:Arg) (i:Nat)
 | call (f:Nat) (args:List Arg)
 | IF (x:Arg) (args:List Arg)
 | app (u8:Bool) (size:Nat) (s x:Arg)
 | copy (size:Nat) (d s:Arg)
 | abC (x:Arg)
 | eR (x:Arg)
 | Ke (x:Arg)
 | cap (x:Arg)
 | mm (kd o m:Nat) (mx:Bool) (x y:Arg)
 | jM (cls:List Nat) (neg:Bool) (x y:Arg)
 | mm3 (kd o m:Nat) (mx:Bool) (x y z:Arg)
 | tas (t:Nat) (x:Arg)
inductive tO where
 | mk (id:Nat) (dst:Option Slot) (guard:Option (Slot × Bool)) (cls:Nat) (op:kP)
inductive uG where
 | mk (id:Nat) (dst:Option Slot) (guard:Option (Slot × Bool)) (tag i bf:Nat) (ad:Arg) (op:kP)
inductive RC where
 | mk (nt fid:Nat) (c:Code)
inductive aq where
 | bad
 | skip
 | ux (ops:List tO)
 | rD (ops:List tO)
 | Xm (ops:List uG)
 | Zk (ops:List uG)
 | seq (a b:aq)
 | cond (c:Arg) (a b:aq)
 | block (id:Nat) (a:aq)
 | loop (a:aq)
 | exit (id:Nat)
 | ret
 | ko (g:Arg) (ps:List Slot) (assign body:RC)
 | Br (g:Arg) (ps:List Slot) (assign body:RC)
inductive RV where
 | tmp (s:Slot)
 | Cz (s:Slot)
 | eV (s:Slot) (n:Nat)
def d8:Nat->I8
 | 0=>.i0 | 1=>.i1 | 2=>.i2 | 3=>.i3 | 4=>.i4 | 5=>.i5 | 6=>.i6 | _=>.i7
def aX (t:Nat):Slot:=.mk (d8 (t/64)) (d8 (t/8%8)) (d8 (t%8))
def enc:List UInt8->Nat
 | []=>0
 | x :: l=>x.toNat+256 * enc l
def mA:Value->Option V
 | .bool b=>some (.bool b)
 | .int k n=>if k.wrap n == n then some (.int (lB k) (n % (2 ^ k.bits:Nat)).toNat) else none
 | .string s=>some (.str s.data.toList.length (enc s.data.toList))
 | .pointer none=>some .iS
 | .slice none 0 0=>some .aw
 | .map none=>some .xc
 | .nilFunc=>some .tp
 | .nilIface=>some .DM
 | _=>none
def consts:List Value->Option (List V)
 | []=>some []
 | v :: l=>match mA v,consts l with
  | some u,some r=>some (u :: r)
  | _,_=>none
def Av:Value->Option V
 | .agg cs=>(consts cs.toList).map .agg
 | .tuple cs=>(consts cs.toList).map .cE
 | v=>mA v
def aK (nt:Nat):Operand->Option Arg
 | .tmp t=>if t<nt then some (.s (aX t)) else none
 | .const v=>(Av v).map .c
 | .func f=>some (.c (.func (2 * f) []))
 | .global _=>none
def bT (nt:Nat):List Operand->Option (List Arg)
 | []=>some []
 | x :: l=>match aK nt x,bT nt l with
  | some a,some r=>some (a :: r)
  | _,_=>none
section
variable (P:Program) (nt:Nat)
def kindOf (t:TypeId):Option IntKind:=match P.underlying t with
 | some (.int k)=>some k
 | _=>none
def Ds (t:TypeId):Bool:=match P.underlying t with
 | some (.int .u8)=>true
 | _=>false
def lj (t:TypeId):Option Bool:=match P.underlying t with
 | some (.struct _) | some (.array _ _)=>some true
 | some _=>some false
 | none=>none
def pV (t:TypeId):Option Nat:=(P.info? t).map (·.size)
def qi (t:TypeId):Option (List V):=match P.info? t with
 | some i=>match i.zero with
  | some z=>consts z.cells.toList
  | none=>none
 | none=>none
def zeroV (t:TypeId):Option V:=match P.info? t with
 | some i=>match i.zero with
  | some z=>Av z
  | none=>none
 | none=>none
def half (k:IntKind):Nat:=if k.signed then 2 ^ (k.bits-1) else 2 ^ k.bits
def fk (k:IntKind):Nat:=if k.signed then 2 ^ (k.bits-1) else 0
def VD (op:BinOp) (k:IntKind):Option BF:=match op with
 | .add=>some (.add (2 ^ k.bits))
 | .sub=>some (.sub (2 ^ k.bits))
 | .mul=>some (.mul (2 ^ k.bits))
 | .and=>some .ad1
 | .or=>some .bor
 | .xor=>some .VS
 | .andNot=>some (.ZZ (2 ^ k.bits))
 | .shl=>some (.shl (2 ^ k.bits) k.bits)
 | .shr=>some (.shr (half k) k.bits)
 | .quo=>some (.quo (half k))
 | .rem=>some (.rem (half k))
 | _=>none
def V5 (op:BinOp) (k:IntKind):Option CF:=match op with
 | .eql=>some .eq
 | .neq=>some .ne
 | .lss=>some (.lt (fk k) (2 ^ k.bits))
 | .leq=>some (.le (fk k) (2 ^ k.bits))
 | .gtr=>some (.gt (fk k) (2 ^ k.bits))
 | .geq=>some (.ge (fk k) (2 ^ k.bits))
 | _=>none
def rK:BinOp->Bool
 | .shl | .shr=>true
 | _=>false
def abO (k:IntKind):Bool:=!k.signed || k.bits == 64
def isC:Arg->Bool
 | .c _=>true
 | .s _=>false
def mU (kc:Nat) (op:BinOp) (x y:Arg):kP:=match op with
 | .eql=>.eqv kc false x y
 | .neq=>.eqv kc true x y
 | _=>.bad
def tU (rc:TypeId->Option (List Nat)):List Field->Nat->Option (List Nat)
 | [],_=>some []
 | f :: l,off=>if f.name == "_" then none else match rc f.type,pV P f.type,tU rc l (off+(pV P f.type).getD 0) with
  | some c,some s,some r=>if f.offset == off && s == c.length then some (c ++ r) else none
  | _,_,_=>none
def uN:Nat->TypeId->Option (List Nat)
 | 0,_=>none
 | d+1,t=>match P.underlying t with
  | some .bool=>some [0]
  | some (.int _)=>some [1]
  | some .string=>some [2]
  | some (.struct fs)=>if P.stoodInHeld t then none else tU P (uN d) fs.toList 0
  | _=>none
def iN (op:BinOp) (t:TypeId) (c:List Nat) (x y:Arg):kP:=if P.eqGuardType P.depth t then .bad else match op with
 | .eql=>.jM c false x y
 | .neq=>.jM c true x y
 | _=>.bad
def lO (op:BinOp) (t:TypeId) (x y:Arg):kP:=match uN P 4 t with
 | some c=>iN P op t c x y
 | none=>.bad
def lP (op:BinOp) (t:TypeId) (n:Nat) (el:TypeId) (x y:Arg):kP:=match uN P 1 el,pV P el with
 | some [q],some 1=>iN P op t (YZ n q) x y
 | _,_=>.bad
def pt (op:BinOp) (xt yt:TypeId) (x y:Arg):kP:=match P.underlying xt with
 | some (.int k)=>match V5 op k with
  | some f=>.cmp (lB k) f x y
  | none=>match VD op k with
   | some f=>if rK op then (match kindOf P yt with | some ky=>if abO ky then .bin (lB k) (lB ky) f x y else .bad | none=>.bad) else .bin (lB k) (lB k) f x y
   | none=>.bad
 | some .string=>match op with
  | .add=>.Ps x y
  | .eql=>.Pv false x y
  | .neq=>.Pv true x y
  | _=>.bad
 | some .bool=>mU 0 op x y
 | some (.pointer _)=>mU 1 op x y
 | some (.slice _)=>mU 2 op x y
 | some (.map _ _)=>mU 3 op x y
 | some (.func _ _ _)=>mU 4 op x y
 | some (.interface _)=>if isC x || isC y then mU 5 op x y else .bad
 | some (.struct _)=>lO P op xt x y
 | some (.array n el)=>lP P op xt n el x y
 | some _=>.bad
 | none=>.bad
def sV (k k':IntKind) (x:Arg):kP:=
 if k.signed && k.bits<k'.bits then .qb (lB k) (lB k') (2 ^ (k.bits-1)) (2 ^ k'.bits-2 ^ k.bits) x
 else .qb (lB k) (lB k') 0 (2 ^ k'.bits) x
def Jh (fs:Array Field):Option (List (Nat × Nat)):=fs.toList.mapM λf=>(P.info? f.type).map λi=>(f.offset,i.size)
def jT (pl:List (Nat × Nat)):List (Nat × Arg)->Option (List (Nat × Nat × Arg))
 | []=>some []
 | (i,a):: l=>match pl[i]?,jT pl l with
  | some p,some r=>some ((p.1,p.2,a):: r)
  | _,_=>none
def px (s:Nat) (l:List (Nat × Arg)):List (Nat × Nat × Arg):=l.map λp=>(p.1*s,s,p.2)
def eg:List (Nat × Operand)->Option (List (Nat × Arg))
 | []=>some []
 | (i,x):: l=>match aK nt x,eg l with
  | some a,some r=>some ((i,a):: r)
  | _,_=>none
def GO:Option Operand->Option (Option Arg)
 | none=>some none
 | some x=>(aK nt x).map some
def gO:Nat->List V->List V
 | 0,_=>[]
 | n+1,l=>l ++ gO n l
def J9 (t:TypeId):Option Bool:=match P.underlying t with
 | some (.int _)=>some false
 | some .string=>some true
 | _=>none
def z8:List V->Bool
 | []=>true
 | .int 4 0 :: l=>z8 l
 | _=>false
def XD (t:TypeId):Bool:=match P.underlying t with
 | some .string | some (.slice _) | some (.map _ _)=>true
 | _=>false
def tJ (t:TypeId):Option TypeId:=match P.underlying t with
 | some (.slice e)=>some e
 | _=>none
def Zm (t:TypeId) (s:Nat):Bool:=match qi P t with
 | some z=>z.length == s
 | none=>false
def dh (b:Builtin) (asL:List Operand) (ts:List TypeId):kP:=match b with
 | .len=>(match bT nt asL,ts with
  | some [x],t :: _=>(match P.underlying t with
   | some .string=>.abC x
   | some (.slice _)=>.eR x
   | some (.map _ _)=>.Ke x
   | _=>.bad)
  | _,_=>.bad)
 | .cap=>(match bT nt asL,ts with
  | some [x],t :: _=>(match tJ P t with | some _=>.cap x | none=>.bad)
  | _,_=>.bad)
 | .append=>(match bT nt asL,ts with
  | some [s,x],[st,xt]=>(match tJ P st with
   | some e=>(match pV P e,P.info? e with
    | some s',some i=>if 0<s' && i.bytes<=65536 && Zm P e s' && XD P xt then .app (Ds P e && s' == 1) s' s x else .bad
    | _,_=>.bad)
   | none=>.bad)
  | _,_=>.bad)
 | .copy=>(match bT nt asL,ts with
  | some [d,s],dt :: _=>(match tJ P dt with
   | some e=>(match pV P e with | some s'=>.copy s' d s | none=>.bad)
   | none=>.bad)
  | _,_=>.bad)
 | .delete=>(match bT nt asL,ts with
  | some [m,x],mt :: _=>(match P.underlying mt with
   | some (.map kt _)=>(match J9 P kt with
    | some ks=>.aeB ks m x
    | none=>.bad)
   | _=>.bad)
  | _,_=>.bad)
 | .max=>(match bT nt asL,ts with
  | some [x,y],t :: _=>(match kindOf P t with | some k=>.mm (lB k) (fk k) (2 ^ k.bits) true x y | none=>.bad)
  | some [x,y,z],t :: _=>(match kindOf P t with | some k=>.mm3 (lB k) (fk k) (2 ^ k.bits) true x y z | none=>.bad)
  | _,_=>.bad)
 | .min=>(match bT nt asL,ts with
  | some [x,y],t :: _=>(match kindOf P t with | some k=>.mm (lB k) (fk k) (2 ^ k.bits) false x y | none=>.bad)
  | some [x,y,z],t :: _=>(match kindOf P t with | some k=>.mm3 (lB k) (fk k) (2 ^ k.bits) false x y z | none=>.bad)
  | _,_=>.bad)
 | _=>.bad
def af (o:Oper):kP:=
 match o.op with
 | .move x | .assign x=>match aK nt x with | some a=>.kU a | none=>.bad
 | .pick c x y=>match aK nt c,aK nt x,aK nt y with | some c,some a,some b=>.pick c a b | _,_,_=>.bad
 | .alloc t=>match qi P t,P.underlying t with
  | some z,some (.array n _)=>if z8 z && z.length == n then .XG n else .lD z
  | some z,some _=>.lD z
  | _,_=>.bad
 | .box _ x=>match aK nt x with | some a=>.box a | none=>.bad
 | .build t parts=>match qi P t,eg nt parts.toList,P.underlying t with
  | some z,some ps,some (.struct fs)=>match Jh P fs with | some pl=>(match jT pl ps with | some q=>.build z q | none=>.bad) | none=>.bad
  | some z,some ps,some (.array _ e)=>match pV P e with | some s=>.build z (px s ps) | none=>.bad
  | _,_,_=>.bad
 | .buildSlice t len parts=>match eg nt parts.toList,P.underlying t with
  | some ps,some (.slice e)=>match pV P e,qi P e with
   | some s,some z=>if len * s<=1024 && z.length == s then .jP (Ds P e && 0<len) len (gO len z) (px s ps) else .bad
   | _,_=>.bad
  | _,_=>.bad
 | .load t a=>match aK nt a,lj P t,pV P t with
  | some a,some true,some n=>.cM n a
  | some a,some false,_=>.dm a
  | _,_,_=>.bad
 | .store t a x=>match aK nt a,aK nt x,lj P t,pV P t with
  | some a,some x,some true,some n=>.fv n a x
  | some a,some x,some false,some 1=>.fu a x
  | _,_,_,_=>.bad
 | .nilCheck x=>match aK nt x with | some a=>.OI a | none=>.bad
 | .binOp op xt x y yt=>match aK nt x,aK nt y with | some x,some y=>pt P op xt yt x y | _,_=>.bad
 | .unOp op xt x=>match aK nt x,op with
  | some x,.not=>.Oo x
  | some x,.neg=>match kindOf P xt with | some k=>.bin (lB k) (lB k) (.sub (2 ^ k.bits)) (.c (.int (lB k) 0)) x | none=>.bad
  | some x,.xor=>match kindOf P xt with | some k=>.bin (lB k) (lB k) .VS (.c (.int (lB k) (2 ^ k.bits-1))) x | none=>.bad
  | _,_=>.bad
 | .convert s d x=>match aK nt x,P.underlying s,P.underlying d with
  | some x,some (.int k),some (.int k')=>sV k k' x
  | some x,some (.slice e),some .string=>if Ds P e then .IJ x else .bad
  | some x,some .string,some (.slice e)=>if Ds P e then .IK x else .bad
  | some x,some .string,some .string=>.Ps x (.c (.str 0 0))
  | _,_,_=>.bad
 | .makeInterface t x=>match aK nt x,P.underlying t with
  | some _,some (.interface _)=>.bad
  | some x,some _=>.mkI t x
  | _,_=>.bad
 | .typeAssert x _ t ok=>match ok,aK nt x,P.underlying t with
  | true,some _,some (.interface _)=>.bad
  | true,some x,some _=>.tas t x
  | _,_,_=>.bad
 | .makeFunc (.func f) first caps=>match first.toList,bT nt caps.toList with
  | [],some l=>.Zu (2 * f) l
  | q :: qs,some []=>match bT nt (q :: qs) with | some l=>.Zu (2 * f+1) l | none=>.bad
  | _,_=>.bad
 | .makeMap _ none=>.mkMap
 | .makeSlice t l c=>match aK nt l,aK nt c,P.underlying t with
  | some l,some c,some (.slice e)=>match qi P e,pV P e,P.info? e with
   | some z,some s,some i=>if z.length == s && 0<s && i.bytes<=65536 then .mkSlice (z8 z && s == 1) z l c else .bad
   | _,_,_=>.bad
  | _,_,_=>.bad
 | .slice t x lo hi mx=>match aK nt x,GO nt lo,GO nt hi,GO nt mx with
  | some x,some lo,some hi,some mx=>match P.underlying t with
   | some .string=>match mx with | none=>.slS x lo hi | some _=>.bad
   | some (.slice e)=>match pV P e with | some s=>(match hi,mx with | none,some _=>.bad | _,_=>.slV s x lo hi mx) | none=>.bad
   | some (.array n e)=>match pV P e with | some s=>(match hi,mx with | none,some _=>.bad | _,_=>.slA n s x lo hi mx) | none=>.bad
   | _=>.bad
  | _,_,_,_=>.bad
 | .fieldAddr t x f=>match aK nt x,P.underlying t with
  | some x,some (.struct fs)=>match fs[f]? with
   | some fd=>match pV P fd.type with | some (_+1)=>.fW fd.offset x | _=>.bad
   | none=>.bad
  | _,_=>.bad
 | .field t x f=>match aK nt x,P.underlying t with
  | some x,some (.struct fs)=>match fs[f]? with
   | some fd=>match lj P fd.type,pV P fd.type with
    | some true,some n=>.Sy fd.offset n x
    | some false,some _=>.Xl fd.offset x
    | _,_=>.bad
   | none=>.bad
  | _,_=>.bad
 | .indexAddr t x i=>match aK nt x,aK nt i,P.underlying t with
  | some x,some i,some (.array len e)=>match pV P e with | some s=>.Xx len s x i | none=>.bad
  | some x,some i,some (.slice e)=>match pV P e with | some s=>.A0 s x i | none=>.bad
  | _,_,_=>.bad
 | .index t x i=>match aK nt x,aK nt i,P.underlying t with
  | some x,some i,some .string=>.ixS x i
  | some x,some i,some (.array len e)=>match pV P e,lj P e with | some s,some b=>.ixG len s b x i | _,_=>.bad
  | _,_,_=>.bad
 | .lookup t m x ok=>match aK nt m,aK nt x,P.underlying t with
  | some m,some x,some (.map kt e)=>match zeroV P e,J9 P kt with
   | some z,some ks=>.look ks z ok m x
   | _,_=>.bad
  | _,_,_=>.bad
 | .mapUpdate t m x y | .insert t m x y=>match aK nt m,aK nt x,aK nt y,P.underlying t with
  | some m,some x,some y,some (.map kt _)=>match J9 P kt with
   | some ks=>.XF ks m x y
   | none=>.bad
  | _,_,_,_=>.bad
 | .extract x i=>match aK nt x with | some x=>.NW x i | none=>.bad
 | .call {callee:=.value (.func f),args,argTypes:=_ }=>match bT nt args.toList,P.funcs[f]? with
  | some l,some _=>.call (2 * f) l
  | _,_=>.bad
 | .call {callee:=.value (.tmp t),args,argTypes:=_ }=>match aK nt (.tmp t),bT nt args.toList with | some x,some l=>.IF x l | _,_=>.bad
 | .call {callee:=.builtin b,args,argTypes:=ts }=>dh P nt b args.toList ts.toList
 | _=>.bad
def bN:kP->Bool
 | .kU _ | .pick _ _ _ | .build _ _ | .OI _ | .bin .. | .cmp .. | .Ps .. | .Pv .. | .eqv .. | .Oo _ | .qb .. | .mkI .. | .tas .. | .Zu .. | .slS .. | .slV .. | .slA .. | .fW .. | .Xl .. | .Sy .. | .Xx .. | .A0 .. | .ixS .. | .ixG .. | .NW .. | .jM ..=>true
 | _=>false
def guardOf (ops:Array Oper) (g:Option (Nat × Bool)):Option (Option (Slot × Bool)):=match g with
 | none=>some none
 | some (j,b)=>match ops[j]? with
  | some o=>match o.dst with
   | some d=>if d<nt then some (some (aX d,b)) else none
   | none=>none
  | none=>none
def rE (d:Option Tmp):Option (Option Slot):=match d with
 | none=>some none
 | some d=>if d<nt then some (some (aX d)) else none
def gI (l:List Bool) (bf:Array Nat) (i:Nat):Bool:=l.zipIdx.all λp=>p.1 || p.2 == i || (bf.getD i 0).testBit p.2 || (bf.getD p.2 0).testBit i
def kG:kP->Bool
 | .lD _ | .XG _=>true
 | _=>false
def dy (l al:List Bool) (bf:Array Nat) (i:Nat):Bool:=!(al.getD i false) && l.zipIdx.all λp=>p.1 || p.2 == i || (bf.getD i 0).testBit p.2 || (bf.getD p.2 0).testBit i || (al.getD p.2 false && Yv i p.2)
def du (base:Nat) (ops:Array Oper) (pl al:List Bool) (bf:Array Nat):List Oper->Nat->Option (List tO)
 | [],_=>some []
 | o :: l,i=>match rE nt o.dst,guardOf nt ops o.guard,du base ops pl al bf l (i+1) with
  | some d,some g,some r=>
   let c:=af P nt o
   some (.mk 0 d g (if bN c || dy pl al bf i then 0 else 1) c :: r)
  | _,_,_=>none
def vD (ops:Array Oper) (o:Oper):List Tmp:=o.dst.toList ++ o.looksAt ops
def jm (ops:Array Oper) (bf:Array Nat):Bool:=
 ops.toList.zipIdx.all λp=>ops.toList.zipIdx.all λq=>p.2 == q.2 || (match p.1.dst with
  | none=>true
  | some d=>!(vD ops q.1).contains d || (if p.2<q.2 then (bf.getD q.2 0).testBit p.2 else (bf.getD p.2 0).testBit q.2))
def kT (ops:Array Oper):Bool:=ops.toList.zipIdx.all λp=>p.1.after.toList.all λe=>!Region.binds .any e || e.on<p.2
def Dq:kP->Bool
 | .dm _ | .cM _ _=>true
 | _=>false
def AZ:kP->Bool
 | .fu _ _ | .fv _ _ _ | .app _ _ _ _=>true
 | _=>false
def qu:kP->Arg
 | .dm a | .cM _ a=>a
 | .fu a _ | .fv _ a _=>a
 | .app _ _ s _=>s
 | .box _=>.c .aw
 | _=>.c .iS
def qd:kP->Bool
 | .box _=>true
 | _=>false
def jh (bf:Array Nat) (i j:Nat):Bool:=(bf.getD i 0).testBit j || (bf.getD j 0).testBit i
def jW (cs:List kP) (bf:Array Nat) (i:Nat):Bool:=qd (cs.getD i .bad) && cs.zipIdx.any λq=>AZ q.1 && Yv i q.2 && !(jh bf i q.2)
def aaN (cs:List kP) (bf:Array Nat) (i:Nat):Bool:=AZ (cs.getD i .bad) && cs.zipIdx.all λq=>bN q.1 || Dq q.1 || q.2 == i || jh bf i q.2 || jW cs bf q.2
def tj (l la:List Bool) (bf:Array Nat) (i:Nat):Bool:=l.zipIdx.all λp=>p.1 || p.2 == i || (bf.getD i 0).testBit p.2 || (bf.getD p.2 0).testBit i || (la.getD p.2 false && Yv p.2 i)
def Oj (cs:List kP) (bf:Array Nat):List Bool:=cs.zipIdx.map λq=>jW cs bf q.2
def qF (cs:List kP) (bf:Array Nat) (i:Nat):Bool:=Dq (cs.getD i .bad) && cs.zipIdx.any λq=>aaN cs bf q.2 && !(jh bf i q.2)
def abI (cs:List kP) (bf:Array Nat):List Bool:=cs.zipIdx.map λq=>bN q.1 || qF cs bf q.2
def nD (cs:List kP) (bf:Array Nat) (i:Nat):Bool:=tj (abI cs bf) (Oj cs bf) bf i && (AZ (cs.getD i .bad) || gI (cs.map bN) bf i)
def U7 (cs:List kP) (bf:Array Nat):Bool:=cs.zipIdx.any λq=>AZ q.1 && !(gI (cs.map bN) bf q.2)
def kY (cs:List kP) (bf:Array Nat) (c:kP) (i:Nat):Nat:=if qF cs bf i then 2 else if bN c then 0 else if nD cs bf i then (if gI (cs.map bN) bf i then 0 else 3) else if jW cs bf i then 4 else 1
def ik (base:Nat) (ops:Array Oper) (cs:List kP) (bf:Array Nat):List Oper->Nat->Option (List uG)
 | [],_=>some []
 | o :: l,i=>match rE nt o.dst,guardOf nt ops o.guard,ik base ops cs bf l (i+1) with
  | some d,some g,some r=>some (.mk 0 d g (kY cs bf (af P nt o) i) i (bf.getD i 0) (qu (af P nt o)) (af P nt o):: r)
  | _,_,_=>none
def xrs:List Nat:=[]
def BU (c:kP):Nat:=if bN c then 0 else if Dq c then 5 else 6
def iq (base:Nat) (ops:Array Oper):List Oper->Nat->Option (List uG)
 | [],_=>some []
 | o :: l,i=>match rE nt o.dst,guardOf nt ops o.guard,iq base ops l (i+1) with
  | some d,some g,some r=>some (.mk 0 d g (BU (af P nt o)) i 0 (qu (af P nt o)) (af P nt o):: r)
  | _,_,_=>none
def uS (c:kP):Bool:=bN c || Dq c
def xOK (cs:List kP) (bf:Array Nat):Bool:=cs.zipIdx.all λq=>uS q.1 || gI (cs.map uS) bf q.2
def dn (o:Oper):Option (TypeId × Nat × Nat):=match o.op,o.dst,o.guard with
 | .load t (.tmp s),some d,none=>some (t,s,d)
 | _,_,_=>none
def lA (o:Oper):Bool:=(dn o).isSome
def Fu (ops:Array Oper) (o:Oper):Bool:=match o.op,o.dst,o.guard with
 | .store t (.tmp s) (.tmp d),none,none=>o.after.toList.any λe=>Region.binds .any e && (match ops[e.on]? with | some o'=>dn o' == some (t,s,d) | none=>false)
 | _,_,_=>false
def jX (ops:Array Oper):List Nat:=ops.toList.filterMap λo=>(dn o).map (·.2.2)
def OO (t:TypeId):Bool:=match lj P t with
 | some true=>(pV P t).isSome
 | some false=>pV P t == some 1
 | none=>false
def Ad (ops:Array Oper):Bool:=
 kT ops && (ops.toList.all λo=>lA o || Fu ops o) && decide (jX ops).Nodup && ops.toList.all λo=>match dn o with
  | some (t,s,_)=>!(jX ops).contains s && OO P t
  | none=>true
def RW (base:Nat) (ops:Array Oper) (draw:Bool):aq:=
 if draw then
  if Ad P ops then (match du P nt base ops [] [] #[] (ops.toList.filter lA) 0 with
   | some l=>.ux l
   | none=>.bad) else
  let bf:=Region.before ops
  if jm ops bf && kT ops then
   if xrs.contains base && xOK (ops.toList.map (af P nt)) bf then (match iq P nt base ops ops.toList 0 with
    | some l=>.Zk l
    | none=>.bad) else
   if U7 (ops.toList.map (af P nt)) bf then (match ik P nt base ops (ops.toList.map (af P nt)) bf ops.toList 0 with
    | some l=>.Xm l
    | none=>.bad) else
   match du P nt base ops (ops.toList.map λo=>bN (af P nt o)) (ops.toList.map λo=>kG (af P nt o)) bf ops.toList 0 with
   | some l=>.rD l
   | none=>.bad
  else .bad
 else match du P nt base ops [] [] #[] ops.toList 0 with
  | some l=>.ux l
  | none=>.bad
def gD:List Tmp->Option (List Slot)
 | []=>some []
 | t :: l=>match gD l with
  | some r=>if t<nt then some (aX t :: r) else none
  | none=>none
def hU (fid:Nat) (inl:Bool):Code->aq
 | .skip=>.skip
 | .region id ops draw=>RW P nt (fid * 100000+id * 100) ops draw
 | .seq a b=>.seq (hU fid inl a) (hU fid inl b)
 | .cond c a b=>match aK nt c with
  | some x=>.cond x (hU fid inl a) (hU fid inl b)
  | none=>.bad
 | .block id a=>.block id (hU fid inl a)
 | .loop a=>.loop (hU fid inl a)
 | .exit id=>.exit id
 | .ret=>.ret
 | .rangeFunc g ps asL bo=>if inl then (match aK nt g,gD nt ps.toList with
  | some x,some l=>.Br x l (.mk nt fid asL) (.mk nt fid bo)
  | _,_=>.bad) else match aK nt g,gD nt ps.toList with
  | some x,some l=>.ko x l (.mk nt fid asL) (.mk nt fid bo)
  | _,_=>.bad
 | _=>.bad
def aZ:RC->aq
 | .mk nt fid c=>hU P nt fid true c
def kS (l:List ResultVar):Option (List RV):=match l with
 | []=>some []
 | .tmp t :: l=>match kS l with
  | some r=>if t<nt then some (.tmp (aX t):: r) else none
  | none=>none
 | .cell a t :: l=>match kS l,lj P t,pV P t with
  | some r,some false,_=>if a<nt then some (.Cz (aX a):: r) else none
  | some r,some true,some n=>if a<nt then some (.eV (aX a) n :: r) else none
  | _,_,_=>none
end
end Go.Ev
end
section
namespace Go.Ev
open Go.RowKit
def aC:Nat->Nat->List UInt8
 | 0,_=>[]
 | l+1,n=>UInt8.ofNat (n % 256):: aC l (n / 256)
def eQ (k:IntKind):Nat:=2 ^ k.bits
def toI (k:IntKind) (n:Nat):Int:=k.wrap (n:Int)
structure M where
 b:Nat->Nat->Prop
 z:Nat->Nat->Prop
def M.le (m m':M):Prop:=(∀ b c,m.b b c->m'.b b c)/\∀ c z,m.z c z->m'.z c z
mutual
def VR (mu:M):V->Value->Prop
 | .int k n,v=>v = .int (oh k) (toI (oh k) n)/\n<eQ (oh k)/\k<8
 | .bool b,v=>v = .bool b
 | .str l n,v=>v = .string ⟨(aC l n).toArray⟩/\n<256 ^ l
 | .ptr b o,v=>∃ c,v = .pointer (some ⟨c,o,none⟩)/\mu.b b c
 | .iS,v=>v = .pointer none
 | .slice b o l cp sz,v=>∃ c cap o' sp,v = .slice (some ⟨c,o',sp⟩) l cap/\mu.b b c/\l<=cap/\((∀ q,cp=q+1->cap=q)/\(cp=0->cap=0\/(mu.z c (o'+cap * sz)/\cap<9223372036854775808)))/\(o'=o/\sp=none\/cap=0)
 | .aw,v=>v = .slice none 0 0
 | .map b,v=>∃ c,v = .map (some c)/\mu.b b c
 | .xc,v=>v = .map none
 | .func f l,v=>∃ cs,v = .func (.func (f / 2)) (if f % 2=0 then #[] else cs) (if f % 2=0 then cs else #[])/\cj mu l cs.toList
 | .su b,v=>∃ c,v = .func (.yield c) #[] #[]/\mu.b b c
 | .tp,v=>v = .nilFunc
 | .iface t x,v=>∃ y,v = .iface t y/\VR mu x y
 | .DM,v=>v = .nilIface
 | .agg l,v=>∃ cs,v = .agg cs/\cj mu l cs.toList
 | .cE l,v=>∃ cs,v = .tuple cs/\cj mu l cs.toList
def cj (mu:M):List V->List Value->Prop
 | [],cs=>cs=[]
 | v :: l,cs=>∃ c r,cs=c :: r/\VR mu v c/\cj mu l r
end
mutual
theorem VR.mono {mu mu':M} (h:mu.le mu'):∀ (v:V) (c:Value),VR mu v c->VR mu' v c
 | .int ..,_,hv=>by simpa only [VR] using hv
 | .bool _,_,hv=>by simpa only [VR] using hv
 | .str ..,_,hv=>by simpa only [VR] using hv
 | .ptr ..,_,hv=>by simp only [VR]at hv ⊢;obtain ⟨c,h1,h2⟩:=hv;exact ⟨c,h1,h.1 _ _ h2⟩
 | .iS,_,hv=>by simpa only [VR] using hv
 | .slice ..,_,hv=>by simp only [VR]at hv ⊢;obtain ⟨c,cap,o',sp,h1,h2,h3,⟨h4,h5⟩,h6⟩:=hv;exact ⟨c,cap,o',sp,h1,h.1 _ _ h2,h3,⟨h4,λe=>(h5 e).imp id λq=>⟨h.2 _ _ q.1,q.2⟩⟩,h6⟩
 | .aw,_,hv=>by simpa only [VR] using hv
 | .map _,_,hv=>by simp only [VR]at hv ⊢;obtain ⟨c,h1,h2⟩:=hv;exact ⟨c,h1,h.1 _ _ h2⟩
 | .xc,_,hv=>by simpa only [VR] using hv
 | .func _ l,_,hv=>by simp only [VR]at hv ⊢;obtain ⟨c,h1,h2⟩:=hv;exact ⟨c,h1,cj.mono h l _ h2⟩
 | .su _,_,hv=>by simp only [VR]at hv ⊢;obtain ⟨c,h1,h2⟩:=hv;exact ⟨c,h1,h.1 _ _ h2⟩
 | .tp,_,hv=>by simpa only [VR] using hv
 | .iface _ x,_,hv=>by simp only [VR]at hv ⊢;obtain ⟨c,h1,h2⟩:=hv;exact ⟨c,h1,VR.mono h x _ h2⟩
 | .DM,_,hv=>by simpa only [VR] using hv
 | .agg l,_,hv=>by simp only [VR]at hv ⊢;obtain ⟨c,h1,h2⟩:=hv;exact ⟨c,h1,cj.mono h l _ h2⟩
 | .cE l,_,hv=>by simp only [VR]at hv ⊢;obtain ⟨c,h1,h2⟩:=hv;exact ⟨c,h1,cj.mono h l _ h2⟩
theorem cj.mono {mu mu':M} (h:mu.le mu'):∀ (l:List V) (cs:List Value),cj mu l cs->cj mu' l cs
 | [],_,hv=>by simpa only [cj] using hv
 | v :: l,_,hv=>by
  simp only [cj]at hv ⊢
  obtain ⟨c,r,h1,h2,h3⟩:=hv
  exact ⟨c,r,h1,VR.mono h v _ h2,cj.mono h l _ h3⟩
end
theorem cj.length {mu:M}:∀ {l:List V} {cs:List Value},cj mu l cs->cs.length=l.length
 | [],_,h=>by simp only [cj]at h;subst h;rfl
 | _ :: l,_,h=>by simp only [cj]at h;obtain ⟨c,r,rfl,_,h2⟩:=h;simp [cj.length h2]
theorem cj.get {mu:M}:∀ {l:List V} {cs:List Value},cj mu l cs->∀ {i:Nat} {v:V},l[i]? = some v->∃ c,cs[i]? = some c/\VR mu v c
 | [],_,_,i,v,hi=>by simp at hi
 | x :: l,_,h,i,v,hi=>by
  simp only [cj]at h
  obtain ⟨c,r,rfl,h1,h2⟩:=h
  cases i with
  | zero=>simp at hi;subst hi;exact ⟨c,rfl,h1⟩
  | succ i=>simp only [Qc]at hi ⊢;exact cj.get h2 hi
theorem cj.oI {mu:M}:∀ {l:List V} {cs:List Value},cs.length=l.length->(∀ (i:Nat) (v:V) (c:Value),l[i]? = some v->cs[i]? = some c->VR mu v c)->cj mu l cs
 | [],cs,hl,_=>by simp only [cj];exact List.length_eq_zero_iff.1 (by simpa using hl)
 | x :: l,[],hl,_=>by simp at hl
 | x :: l,c :: r,hl,h=>by
  simp only [cj]
  exact ⟨c,r,rfl,h 0 x c rfl rfl,cj.oI (by simpa using hl) λi v c' h1 h2=>h (i+1) v c' (by simpa using h1) (by simpa using h2)⟩
theorem cj.append {mu:M}:∀ {l m:List V} {cs ds:List Value},cj mu l cs->cj mu m ds->cj mu (l ++ m) (cs ++ ds)
 | [],_,_,_,h,h'=>by simp only [cj]at h;subst h;simpa using h'
 | x :: l,_,_,_,h,h'=>by
  simp only [cj]at h
  obtain ⟨c,r,rfl,h1,h2⟩:=h
  simp only [YP,cj]
  exact ⟨c,_,rfl,h1,cj.append h2 h'⟩
def V.one:V->Bool
 | .agg _ | .cE _=>false
 | _=>true
theorem VR.one {mu:M} {v:V} {c:Value} (h:VR mu v c) (ho:v.one=true):(∀ x,c ≠ .agg x)/\(∀ x,c ≠ .tuple x):=by
 cases v<;>simp only [VR]at h<;>simp [V.one]at ho<;>
  first
  | (subst h;constructor<;>intro x hx<;>cases hx)
  | (obtain ⟨rfl,_⟩:=h;constructor<;>intro x hx<;>cases hx)
  | (obtain ⟨c,rfl,_⟩:=h;constructor<;>intro x hx<;>cases hx)
  | (obtain ⟨c,d,o,sp,rfl,_⟩:=h;constructor<;>intro x hx<;>cases hx)
inductive ee where
 | dead
 | cells (l:List V)
 | bytes (len n:Nat)
 | map (es:List (V × V))
 | mark
 | loop (st jump:Nat) (e:Env) (ps:List Slot) (assign body:RC)
 | view (l:List V)
def ee.alive:ee->Prop
 | .dead=>False
 | _=>True
def ie (mu:M) (l:List V) (c:Array Value) (fr:Nat × Nat):Prop:=
 (∀ (i:Nat) (v:V),l[i]? = some v->v.one=true/\∃ cv,c[i]? = some cv/\VR mu v cv)/\∀ i,i<c.size->¬ (fr.1<=i/\i<fr.2)
def p8 {α:Type} (i:I8) (t:N8 α):α:=match t with
 | .mk a0 a1 a2 a3 a4 a5 a6 a7=>match i with
  | .i0=>a0 | .i1=>a1 | .i2=>a2 | .i3=>a3 | .i4=>a4 | .i5=>a5 | .i6=>a6 | .i7=>a7
def aa (s:Slot) (e:Env):V:=match s with
 | .mk a b c=>p8 c (p8 b (p8 a e))
structure TR (mu:M) (nt:Nat) (e:Env) (tmps:Array Value):Prop where
 size:tmps.size=nt
 le:nt<=512
 get:∀ (t:Nat) (v:Value),tmps[t]? = some v->VR mu (aa (aX t) e) v
 rest:∀ t,nt<=t->t<512->aa (aX t) e = .cE []
theorem TR.mono {mu mu':M} (h:mu.le mu') {nt:Nat} {e:Env} {tmps:Array Value} (ht:TR mu nt e tmps):TR mu' nt e tmps:=
 ⟨ht.size,ht.le,λt v hv=>VR.mono h _ _ (ht.get t v hv),ht.rest⟩
def TO:LoopState->Nat
 | .ready=>0 | .busy=>1 | .done=>2 | .exhausted=>3
def He:Nat->Option Code
 | 0=>none
 | 1=>some .ret
 | n+2=>some (.exit n)
def Kd (x y:V):Prop:=(∃ k a b,x = .int k a/\y = .int k b)\/∃ l a m b,x = .str l a/\y = .str m b
def eT (ks:List V):Prop:=ks.Nodup/\∀ x ∈ ks,∀ y ∈ ks,Kd x y
def lh (ents:Array MapEntry) (clock:Nat):Prop:=(ents.toList.map (·.born)).Nodup/\∀ en ∈ ents.toList,en.born<clock
def BR (P:Program) (mu:M):ee->Obj->Prop
 | .dead,_=>True
 | .cells l,o=>∃ c e fr,o = .cells c e fr/\ie mu l c fr/\¬ (fr.1<=c.size/\c.size<fr.2)
 | .bytes len n,o=>∃ c e fr,o = .cells c e fr/\(n<256 ^ len/\∀ (i:Nat) (x:UInt8),(aC len n)[i]? = some x->c[i]? = some (Value.int .u8 (x.toNat:Int)))/\∀ i,i<c.size->¬ (fr.1<=i/\i<fr.2)
 | .map es,o=>∃ (ents:Array MapEntry) (clock:Nat) (es':List (V × V)),o = .map ents clock/\es'.Perm es/\eT (es.map (·.1))/\lh ents clock/\cj mu (es'.map (·.1)) (ents.toList.map (·.key))/\cj mu (es'.map (·.2)) (ents.toList.map (·.val))
 | .mark,o=>∃ x,o = .deferred x
 | .view l,o=>∃ c e fr,o = .cells c e fr/\∀ (i:Nat) (v:V),l[i]? = some v->v.one=true->(∃ cv,c[i]? = some cv/\VR mu v cv)/\¬ (fr.1<=i/\i<fr.2)
 | .loop st jump e ps asL bo,o=>∃ (r:Loop) (nt fid:Nat),o = .loop r/\TO r.state=st/\r.pending=He jump/\TR mu nt e r.tmps/\gD nt r.params.toList=some ps/\RC.mk nt fid r.assign=asL/\RC.mk nt fid r.body=bo
theorem BR.mono {P:Program} {mu mu':M} (h:mu.le mu') {bl:ee} {o:Obj} (hb:BR P mu bl o):BR P mu' bl o:=by
 cases bl with
 | dead=>exact True.intro
 | cells l=>
  obtain ⟨c,e,fr,h1,⟨h2,h3⟩,h4⟩:=hb
  exact ⟨c,e,fr,h1,⟨λi v hi=>⟨(h2 i v hi).1,(h2 i v hi).2.imp λcv hcv=>⟨hcv.1,VR.mono h _ _ hcv.2⟩⟩,h3⟩,h4⟩
 | bytes len n=>exact hb
 | map es=>
  obtain ⟨ents,clock,es',h1,h4,h5,h6,h2,h3⟩:=hb
  exact ⟨ents,clock,es',h1,h4,h5,h6,cj.mono h _ _ h2,cj.mono h _ _ h3⟩
 | mark=>exact hb
 | view l=>
  obtain ⟨c,e,fr,h1,h2⟩:=hb
  exact ⟨c,e,fr,h1,λi v hi ho=>⟨(h2 i v hi ho).1.imp λcv hcv=>⟨hcv.1,VR.mono h _ _ hcv.2⟩,(h2 i v hi ho).2⟩⟩
 | loop st jump e ps asL bo=>
  obtain ⟨r,nt,fid,h1,h2,h3,h4,h5⟩:=hb
  exact ⟨r,nt,fid,h1,h2,h3,h4.mono h,h5⟩
inductive HT where
 | e
 | n (v:ee) (l r:HT)
noncomputable def HT.get:HT->Nat->ee:=
 HT.rec (motive:=λ_=>Nat->ee) (λ_=>.dead)
  (λv _ _ gl gr k=>Nat.rec (motive:=λ_=>ee) v (λj _=>Nat.rec (motive:=λ_=>ee) (gl (WX j 2)) (λ_ _=>gr (WX j 2)) (Yr j 2)) k)
noncomputable def HT.set (x:ee):HT->Nat->(HT->R)->R:=
 HT.rec (motive:=λ_=>Nat->(HT->R)->R)
  (λk c=>Nat.rec (motive:=λ_=>R) (c (.n x .e .e)) (λ_ _=>no 1) k)
  (λu l r sl sr k c=>Nat.rec (motive:=λ_=>R) (c (.n x l r))
   (λj _=>Nat.rec (motive:=λ_=>R) (sl (WX j 2) λl'=>c (.n u l' r)) (λ_ _=>sr (WX j 2) λr'=>c (.n u l r')) (Yr j 2)) k)
theorem HT.ue (k:Nat):HT.get .e k = .dead:=rfl
theorem HT.Dk (v:ee) (l r:HT):HT.get (.n v l r) 0=v:=rfl
theorem HT.cK (v:ee) (l r:HT) (j:Nat):HT.get (.n v l r) (j+1)=if j%2=0 then HT.get l (j/2) else HT.get r (j/2):=by
 show Nat.rec (motive:=λ_=>ee) (HT.get l (j/2)) (λ_ _=>HT.get r (j/2)) (j%2)=_
 rcases (by omega:j%2=0\/j%2=1) with h|h<;>rw [h]<;>rfl
theorem HT.HF {x:ee}:∀ (t:HT) (k:Nat) (c:HT->R),t.set x k c=1->∃ t',c t'=1/\t'.get k=x/\∀ j,j≠k->t'.get j=t.get j:=by
 intro t
 induction t with
 | e=>
  intro k c h
  cases k with
  | zero=>
   refine ⟨_,h,rfl,λj hj=>?_⟩
   cases j with
   | zero=>exact absurd rfl hj
   | succ j=>rw [cK,ue,ue];simp [ue]
  | succ k=>exact (au h).elim
 | n u l r ihl ihr=>
  intro k c h
  cases k with
  | zero=>
   refine ⟨_,h,rfl,λj hj=>?_⟩
   cases j with
   | zero=>exact absurd rfl hj
   | succ j=>rw [cK,cK]
  | succ k=>
   have h':Nat.rec (motive:=λ_=>R) (l.set x (k/2) λl'=>c (.n u l' r)) (λ_ _=>r.set x (k/2) λr'=>c (.n u l r')) (k%2)=1:=h
   rcases (by omega:k%2=0\/k%2=1) with hk|hk
   .rw [hk]at h'
    obtain ⟨t',h1,h2,h3⟩:=ihl _ _ h'
    refine ⟨_,h1,by rw [cK,if_pos hk];exact h2,λj hj=>?_⟩
    cases j with
    | zero=>rfl
    | succ j=>
     rw [cK,cK]
     split
     .exact h3 _ (by omega)
     .rfl
   .rw [hk]at h'
    obtain ⟨t',h1,h2,h3⟩:=ihr _ _ h'
    refine ⟨_,h1,by rw [cK,if_neg (by omega)];exact h2,λj hj=>?_⟩
    cases j with
    | zero=>rfl
    | succ j=>
     rw [cK,cK]
     split
     .rfl
     .exact h3 _ (by omega)
inductive Heap where
 | mk (n bC:Nat) (t:HT)
noncomputable def Heap.n (h:Heap):Nat:=Heap.rec (λn _ _=>n) h
noncomputable def Heap.bC (h:Heap):Nat:=Heap.rec (λ_ w _=>w) h
noncomputable def Heap.t (h:Heap):HT:=Heap.rec (λ_ _ t=>t) h
noncomputable def Heap.get (h:Heap) (b:Nat):ee:=h.t.get b
def mu (rho:Nat->Option Nat) (H:Heap) (w:World):M:=⟨λb c=>b<H.n/\((H.get b).alive->rho b=some c),λc z=>∃ cs e fr,w.heap[c]? = some (.cells cs e fr)/\cs.size=z⟩
def GB (_:Nat):Prop:=False
def GQ (_:World):Prop:=True
theorem uT {w w':World} (_:GQ w) (_:∀ c,GB c->w'.heap[c]? = w.heap[c]?):GQ w':=trivial
theorem Gno {w:World}:GQ w/\∀ c,GB c->c<w.heap.size:=⟨trivial,λ_ h=>h.elim⟩
def Gl (rho:Nat->Option Nat) (w:World):Prop:=GQ w/\(∀ c,GB c->c<w.heap.size)/\∀ b c,rho b=some c->¬ GB c
structure PR (P:Program) (base:Nat) (w0:World) (rho:Nat->Option Nat) (H:Heap) (w:World):Prop where
 below:Below base w0 w
 cN:base<=w.heap.size
 wn:H.bC<=H.n
 jl:∀ b c,rho b=some c->b<H.n/\base<=c/\c<w.heap.size/\(H.get b).alive
 inj:∀ b b' c,rho b=some c->rho b'=some c->b=b'
 cQ:∀ b c,rho b=some c->∃ o,w.heap[c]? = some o/\BR P (mu rho H w) (H.get b) o
 out:∀ b,H.n<=b->H.get b = .dead
 gl:Gl rho w
structure Ext (rho:Nat->Option Nat) (H:Heap) (w:World) (rho':Nat->Option Nat) (H':Heap) (w':World):Prop where
 n:H.n<=H'.n
 bC:H'.bC<=H.bC
 size:w.heap.size<=w'.heap.size
 cD:∀ b,b<H.n->b<H'.bC->H'.get b=H.get b/\rho' b=rho b
 old:∀ b c,b<H.n->rho' b=some c->rho b=some c
 live:∀ b c,rho b=some c->(H'.get b).alive->rho' b=some c
 qe:∀ b,b<H.n->(H'.get b).alive->(H.get b).alive
 new:∀ b c,H.n<=b->rho' b=some c->w.heap.size<=c\/∃ b0,rho b0=some c/\H'.bC<=b0
 fr:∀ c,c<w.heap.size->(∀ b,rho b=some c->b<H'.bC)->w'.heap[c]? = w.heap[c]?
 marks:∀ b,H.get b = .mark->H'.get b = .mark/\rho' b=rho b/\∀ c,rho b=some c->w'.heap[c]? = w.heap[c]?
 rows:∀ (c:Nat) (cs:Array Value) (e:TypeId) (fr:Nat × Nat),w.heap[c]? = some (.cells cs e fr)->∃ cs' e' fr',w'.heap[c]? = some (.cells cs' e' fr')/\cs'.size=cs.size
 loops:∀ (c:Nat) (r:Loop),w.heap[c]? = some (.loop r)->∃ r',w'.heap[c]? = some (.loop r')
theorem Ext.refl {rho:Nat->Option Nat} {H:Heap} {w:World} (hd:∀ b c,rho b=some c->b<H.n):Ext rho H w rho H w:=
 ⟨YA _,YA _,YA _,λ_ _ _=>⟨rfl,rfl⟩,λ_ _ _ h=>h,λ_ _ h _=>h,λ_ _ h=>h,λb c hb h=>absurd (hd b c h) (by omega),λ_ _ _=>rfl,λb h=>⟨h,rfl,λ_ _=>rfl⟩,λc cs e fr h=>⟨cs,e,fr,h,rfl⟩,λc r h=>⟨r,h⟩⟩
theorem Gl.step {rho rho':Nat->Option Nat} {H H':Heap} {w w':World} (h:Gl rho w) (e:Ext rho H w rho' H' w'):Gl rho' w':=by
 obtain ⟨h1,h2,h3⟩:=h
 refine ⟨uT h1 λc hc=>e.fr c (h2 c hc) λb hb=>absurd hc (h3 b c hb),λc hc=>YC (h2 c hc) e.size,λb c hb hc=>?_⟩
 by_cases hbn:b<H.n
 .exact h3 b c (e.old b c hbn hb) hc
 .rcases e.new b c (by omega) hb with h|⟨b0,h4,_⟩
  .have:=h2 c hc;omega
  .exact h3 b0 c h4 hc
theorem Ext.mu {rho rho':Nat->Option Nat} {H H':Heap} {w w':World} (h:Ext rho H w rho' H' w'):(mu rho H w).le (mu rho' H' w'):=
 ⟨λb c ⟨h1,h2⟩=>⟨YC h1 h.n,λha=>h.live _ _ (h2 (h.qe b h1 ha)) ha⟩,
  λc z ⟨cs,e,fr,h1,h2⟩=>let ⟨cs',e',fr',h3,h4⟩:=h.rows c cs e fr h1; ⟨cs',e',fr',h3,h4.trans h2⟩⟩
theorem Ext.trans {r r1 r2:Nat->Option Nat} {H H1 H2:Heap} {w w1 w2:World} (hd:∀ b c,r b=some c->b<H.n) (h:Ext r H w r1 H1 w1) (k:Ext r1 H1 w1 r2 H2 w2):Ext r H w r2 H2 w2 where
 n:=Ym h.n k.n
 bC:=Ym k.bC h.bC
 size:=Ym h.size k.size
 cD b hb hw:=by
  obtain ⟨a1,a2⟩:=h.cD b hb (YC hw k.bC)
  obtain ⟨b1,b2⟩:=k.cD b (YC hb h.n) hw
  exact ⟨b1.trans a1,b2.trans a2⟩
 old b c hb hr:=h.old b c hb (k.old b c (YC hb h.n) hr)
 live b c hr ha:=by
  have hb:b<H1.n:=YC (hd b c hr) h.n
  exact k.live b c (h.live b c hr (k.qe b hb ha)) ha
 qe b hb ha:=h.qe b hb (k.qe b (YC hb h.n) ha)
 new b c hb hr:=by
  by_cases hb1:b<H1.n
  .rcases h.new b c hb (k.old b c hb1 hr) with h'|⟨b0,h1,h2⟩
   .exact YG h'
   .exact YE ⟨b0,h1,Ym k.bC h2⟩
  .rcases k.new b c (by omega) hr with h'|⟨b0,h1,h2⟩
   .exact YG (Ym h.size h')
   .by_cases hb0:b0<H.n
    .exact YE ⟨b0,h.old b0 c hb0 h1,h2⟩
    .rcases h.new b0 c (by omega) h1 with h'|⟨b1,h3,h4⟩
     .exact YG h'
     .exact YE ⟨b1,h3,Ym k.bC h4⟩
 fr c hc hb:=by
  refine (k.fr c (YC hc h.size) λb hr=>?_).trans (h.fr c hc λb hr=>YC (hb b hr) k.bC)
  by_cases hb0:b<H.n
  .exact hb b (h.old b c hb0 hr)
  .rcases h.new b c (by omega) hr with h'|⟨b1,h3,h4⟩
   .omega
   .have:=hb b1 h3
    have:=k.bC
    omega
 rows c cs e fr hc:=by
  obtain ⟨cs',e',fr',h1,h2⟩:=h.rows c cs e fr hc
  obtain ⟨cs2,e2,fr2,h3,h4⟩:=k.rows c cs' e' fr' h1
  exact ⟨cs2,e2,fr2,h3,h4.trans h2⟩
 loops c r hc:=by
  obtain ⟨r',h1⟩:=h.loops c r hc
  exact k.loops c r' h1
 marks b hb:=by
  obtain ⟨a1,a2,a3⟩:=h.marks b hb
  obtain ⟨b1,b2,b3⟩:=k.marks b a1
  exact ⟨b1,b2.trans a2,λc hc=>(b3 c (a2.trans hc)).trans (a3 c hc)⟩
section
variable {P:Program} {base:Nat} {w0 w w':World} {rho:Nat->Option Nat} {H H':Heap}
theorem PR.lt (h:PR P base w0 rho H w):∀ b c,rho b=some c->b<H.n:=λb c hr=>(h.jl b c hr).1
theorem PR.drawn (h:PR P base w0 rho H w) (n:Nat):PR P base w0 rho H {w with drawn:=n } where
 below:=⟨h.below.os,h.below.tape,h.below.output,h.below.size,h.below.block⟩
 cN:=h.cN
 wn:=h.wn
 jl:=h.jl
 inj:=h.inj
 cQ:=h.cQ
 out:=h.out
 gl:=⟨uT h.gl.1 λ_ _=>rfl,h.gl.2⟩
theorem nS (h:Below base w0 w) (hos:w'.os=w.os) (htape:w'.tape=w.tape) (hout:w'.output=w.output) (hsz:w.heap.size<=w'.heap.size)
 (hb:∀ k,k<base->w'.heap[k]? = w.heap[k]?):Below base w0 w':=
 ⟨hos.trans h.os,htape.trans h.tape,hout.trans h.output,Ym h.size hsz,λk hk=>(hb k hk).trans (h.block k hk)⟩
theorem PR.Hp (h:PR P base w0 rho H w) (hn:H'.n=H.n) (ht:∀ b,H'.get b=H.get b) (hw:H'.bC<=H'.n):PR P base w0 rho H' w:=by
 have hm:(mu rho H w).le (mu rho H' w):=⟨λb c hm=>⟨by rw [hn];exact hm.1,by rw [ht];exact hm.2⟩,λ_ _ h=>h⟩
 exact ⟨h.below,h.cN,hw,λb c hr=>by rw [hn,ht];exact h.jl b c hr,h.inj,λb c hr=>by
  obtain ⟨o,h1,h2⟩:=h.cQ b c hr
  rw [ht]
  exact ⟨o,h1,h2.mono hm⟩,λb hb=>by rw [ht];exact h.out b (by omega),h.gl⟩
structure vJ (w w':World):Prop where
 os:w'.os=w.os
 tape:w'.tape=w.tape
 output:w'.output=w.output
theorem PR.alloc (h:PR P base w0 rho H w) {bl:ee} {o:Obj} (hn:H'.n=H.n+1) (hw:H'.bC=H.bC) (hg:H'.get H.n=bl) (ho:∀ j,j≠H.n->H'.get j=H.get j)
 (ha:bl.alive) (hs:vJ w w') (hsz:w'.heap.size=w.heap.size+1) (hnew:w'.heap[w.heap.size]? = some o) (hold:∀ j,j<w.heap.size->w'.heap[j]? = w.heap[j]?)
 (hb:BR P (mu rho H w) bl o):
 PR P base w0 (λb=>if b=H.n then some w.heap.size else rho b) H' w'/\Ext rho H w (λb=>if b=H.n then some w.heap.size else rho b) H' w':=by
 have hlt:=h.lt
 have hE:Ext rho H w (λb=>if b=H.n then some w.heap.size else rho b) H' w':=by
  refine ⟨by omega,by omega,by omega,λb hb _=>⟨ho b (by omega),by simp [QW hb]⟩,λb c hb hr=>?_,λb c hr _=>?_,λb hb hal=>?_,λb c hb hr=>?_,λc hc _=>hold c hc,λb hm=>?_,λc cs e fr hc=>⟨cs,e,fr,(hold c (YK.1 hc).1).trans hc,rfl⟩,λc r hc=>⟨r,(hold c (YK.1 hc).1).trans hc⟩⟩
  .simpa [QW hb] using hr
  .have:=hlt b c hr;simp [QW this,hr]
  .rwa [ho b (by omega)]at hal
  .by_cases hb':b=H.n
   .simp [hb']at hr;omega
   .simp [hb']at hr;have:=hlt b c hr;omega
  .have hb':b≠H.n:=λe=>by subst e;rw [h.out H.n (YA _)]at hm;cases hm
   exact ⟨(ho b hb').trans hm,by simp [hb'],λc hc=>hold c (h.jl b c hc).2.2.1⟩
 refine ⟨⟨nS h.below hs.os hs.tape hs.output (by omega) λk hk=>hold k (by have:=h.cN;omega),by have:=h.cN;omega,by have:=h.wn;omega,λb c hr=>?_,λb b' c hr hr'=>?_,λb c hr=>?_,λb hb'=>?_,h.gl.step hE⟩,hE⟩
 .by_cases hb':b=H.n
  .subst hb'
   simp at hr
   subst hr
   exact ⟨by omega,h.cN,by omega,by rw [hg];exact ha⟩
  .simp [hb']at hr
   obtain ⟨h1,h2,h3,h4⟩:=h.jl b c hr
   exact ⟨by omega,h2,by omega,by rw [ho b hb'];exact h4⟩
 .by_cases h1:b=H.n<;>by_cases h2:b'=H.n<;>simp [h1,h2]at hr hr'
  .omega
  .have:=(h.jl b' c hr').2.2.1;omega
  .have:=(h.jl b c hr).2.2.1;omega
  .exact h.inj b b' c hr hr'
 .by_cases hb':b=H.n
  .subst hb'
   simp at hr
   subst hr
   exact ⟨o,hnew,by rw [hg];exact hb.mono hE.mu⟩
  .simp [hb']at hr
   obtain ⟨o',h1,h2⟩:=h.cQ b c hr
   refine ⟨o',(hold c (h.jl b c hr).2.2.1).trans h1,?_⟩
   rw [ho b hb']
   exact h2.mono hE.mu
 .rw [ho b (by omega)]
  exact h.out b (by omega)
theorem PR.write (h:PR P base w0 rho H w) {b c:Nat} {bl:ee} {o:Obj} (hr:rho b=some c) (hnm:H.get b ≠ .mark) (hn:H'.n=H.n) (hw:H'.bC<=H.bC) (hwb:H'.bC<=b) (hg:H'.get b=bl)
 (ho:∀ j,j≠b->H'.get j=H.get j) (ha:bl.alive) (hs:vJ w w') (hsz:w'.heap.size=w.heap.size) (hnew:w'.heap[c]? = some o) (hold:∀ j,j≠c->w'.heap[j]? = w.heap[j]?)
 (hb:BR P (mu rho H w) bl o) (hz:∀ cs e fr,w.heap[c]? = some (.cells cs e fr)->∃ cs' e' fr',o = .cells cs' e' fr'/\cs'.size=cs.size) (hlp:∀ r,w.heap[c]? = some (.loop r)->∃ r',o = .loop r'):PR P base w0 rho H' w'/\Ext rho H w rho H' w':=by
 have hlt:=h.lt
 have hd:=h.jl b c hr
 have hE:Ext rho H w rho H' w':=by
  refine ⟨by omega,hw,by omega,λj hj hjw=>⟨ho j (by omega),rfl⟩,λ_ _ _ h=>h,λ_ _ h _=>h,λj hj hal=>?_,λj c' hj hr'=>?_,λj hj hjw=>hold j λe=>?_,λj hm=>⟨(ho j λe=>by subst e;exact hnm hm).trans hm,rfl,λc1 hc1=>hold c1 λe=>hnm (by subst e;rw [<- h.inj j b c1 hc1 hr];exact hm)⟩,λj cs e fr hj=>?_,λj r hj=>?_⟩
  .by_cases hjb:j=b
   .subst hjb;exact hd.2.2.2
   .rwa [ho j hjb]at hal
  .have:=hlt j c' hr';omega
  .subst e;have:=hjw b hr;omega
  .by_cases hjc:j=c
   .subst hjc
    obtain ⟨cs',e',fr',h1,h2⟩:=hz cs e fr hj
    exact ⟨cs',e',fr',by rw [hnew,h1],h2⟩
   .exact ⟨cs,e,fr,(hold j hjc).trans hj,rfl⟩
  .by_cases hjc:j=c
   .subst hjc
    obtain ⟨r',h1⟩:=hlp r hj
    exact ⟨r',by rw [hnew,h1]⟩
   .exact ⟨r,(hold j hjc).trans hj⟩
 refine ⟨⟨nS h.below hs.os hs.tape hs.output (by omega) λk hk=>hold k (by omega),by have:=h.cN;omega,by have:=h.wn;omega,λj c' hr'=>?_,h.inj,λj c' hr'=>?_,λj hj=>?_,h.gl.step hE⟩,hE⟩
 .obtain ⟨h1,h2,h3,h4⟩:=h.jl j c' hr'
  refine ⟨by omega,h2,by omega,?_⟩
  by_cases hjb:j=b
  .subst hjb;rw [hg];exact ha
  .rw [ho j hjb];exact h4
 .by_cases hjb:j=b
  .subst hjb
   rw [hr]at hr'
   cases hr'
   exact ⟨o,hnew,by rw [hg];exact hb.mono hE.mu⟩
  .obtain ⟨o',h1,h2⟩:=h.cQ j c' hr'
   refine ⟨o',(hold c' λe=>hjb (h.inj j b c' hr' (e ▸ hr))).trans h1,?_⟩
   rw [ho j hjb]
   exact h2.mono hE.mu
 .rw [ho j (by omega)]
  exact h.out j (by omega)
theorem PR.move (h:PR P base w0 rho H w) {b c c':Nat} {bl:ee} {o:Obj} (hr:rho b=some c) (hnm:H.get b ≠ .mark) (hn:H'.n=H.n+1) (hw:H'.bC<=H.bC) (hwb:H'.bC<=b) (hd:H'.get b = .dead) (hg:H'.get H.n=bl)
 (ho:∀ j,j≠b->j≠H.n->H'.get j=H.get j) (ha:bl.alive) (hs:vJ w w') (hsz:w.heap.size<=w'.heap.size) (hc':c'=c\/w.heap.size<=c') (hc'':c'<w'.heap.size) (hnew:w'.heap[c']? = some o)
 (hold:∀ j,j<w.heap.size->j≠c->w'.heap[j]? = w.heap[j]?)
 (hb:BR P (mu rho H w) bl o) (hz:∀ cs e fr,w.heap[c]? = some (.cells cs e fr)->∃ cs' e' fr',w'.heap[c]? = some (.cells cs' e' fr')/\cs'.size=cs.size) (hlp:∀ r,w.heap[c]? = some (.loop r)->False):
 PR P base w0 (λj=>if j=H.n then some c' else if j=b then none else rho j) H' w'/\Ext rho H w (λj=>if j=H.n then some c' else if j=b then none else rho j) H' w':=by
 have hlt:=h.lt
 have hdm:=h.jl b c hr
 have hbn:b≠H.n:=by omega
 have hE:Ext rho H w (λj=>if j=H.n then some c' else if j=b then none else rho j) H' w':=by
  refine ⟨by omega,hw,hsz,λj hj hjw=>⟨ho j (by omega) (by omega),(λ(hjb:j≠b)=>by simp [QW hj,hjb]) (by omega)⟩,λj c1 hj h1=>?_,λj c1 h1 hal=>?_,λj hj hal=>?_,λj c1 hj h1=>?_,λj hj hjw=>hold j hj λe=>?_,λj hm=>?_,λj cs e fr hj=>?_,λj r hj=>⟨r,(hold j (YK.1 hj).1 λe=>hlp r (e ▸ hj)).trans hj⟩⟩
  .simp only [QW hj,if_false]at h1
   split at h1
   .cases h1
   .exact h1
  .have h2:=hlt j c1 h1
   by_cases hjb:j=b
   .subst hjb;rw [hd]at hal;exact hal.elim
   .simp [QW h2,hjb,h1]
  .by_cases hjb:j=b
   .subst hjb;exact hdm.2.2.2
   .rwa [ho j hjb (by omega)]at hal
  .by_cases hjn:j=H.n
   .simp [hjn]at h1
    subst h1
    rcases hc' with e|e
    .exact YE ⟨b,e ▸ hr,hwb⟩
    .exact YG e
   .by_cases hjb:j=b
    .omega
    .simp [hjn,hjb]at h1
     have:=hlt j c1 h1
     omega
  .subst e;have:=hjw b hr;omega
  .have h1:j≠H.n:=λe=>by subst e;rw [h.out H.n (YA _)]at hm;cases hm
   have h2:j≠b:=λe=>by subst e;exact hnm hm
   exact ⟨(ho j h2 h1).trans hm,by simp [h1,h2],λc1 hc1=>hold c1 (h.jl j c1 hc1).2.2.1 λe=>h2 (h.inj j b c1 hc1 (e ▸ hr))⟩
  .by_cases hjc:j=c
   .subst hjc;exact hz cs e fr hj
   .exact ⟨cs,e,fr,(hold j (YK.1 hj).1 hjc).trans hj,rfl⟩
 refine ⟨⟨nS h.below hs.os hs.tape hs.output hsz λk hk=>hold k (by have:=h.cN;omega) (by omega),by have:=h.cN;omega,by have:=h.wn;omega,λj c1 hr'=>?_,λj j' c1 hr1 hr2=>?_,λj c1 hr'=>?_,λj hj=>?_,h.gl.step hE⟩,hE⟩
 .by_cases hjn:j=H.n
  .simp [hjn]at hr'
   subst hr'
   subst hjn
   refine ⟨by omega,?_,hc'',by rw [hg];exact ha⟩
   rcases hc' with e|e
   .omega
   .have:=h.cN;omega
  .by_cases hjb:j=b
   .simp [hjb,hbn]at hr'
   .simp [hjn,hjb]at hr'
    obtain ⟨h1,h2,h3,h4⟩:=h.jl j c1 hr'
    exact ⟨by omega,h2,by omega,by rw [ho j hjb hjn];exact h4⟩
 .have key:∀ j,j≠H.n->j≠b->rho j=some c'->False:=by
   intro j _ hj2 hj3
   rcases hc' with e|e
   .subst e;exact hj2 (h.inj j b c' hj3 hr)
   .have:=(h.jl j c' hj3).2.2.1;omega
  by_cases h1:j=H.n<;>by_cases h2:j'=H.n
  .omega
  .by_cases h3:j'=b
   .simp [h3,hbn]at hr2
   .simp [h2,h3]at hr2
    simp [h1]at hr1
    subst hr1
    exact (key j' h2 h3 hr2).elim
  .by_cases h3:j=b
   .simp [h3,hbn]at hr1
   .simp [h1,h3]at hr1
    simp [h2]at hr2
    subst hr2
    exact (key j h1 h3 hr1).elim
  .by_cases h3:j=b
   .simp [h3,hbn]at hr1
   .by_cases h4:j'=b
    .simp [h4,hbn]at hr2
    .simp [h1,h3]at hr1
     simp [h2,h4]at hr2
     exact h.inj j j' c1 hr1 hr2
 .by_cases hjn:j=H.n
  .simp [hjn]at hr'
   subst hr'
   subst hjn
   exact ⟨o,hnew,by rw [hg];exact hb.mono hE.mu⟩
  .by_cases hjb:j=b
   .simp [hjb,hbn]at hr'
   .simp [hjn,hjb]at hr'
    obtain ⟨o',h1,h2⟩:=h.cQ j c1 hr'
    refine ⟨o',(hold c1 (h.jl j c1 hr').2.2.1 λe=>hjb (h.inj j b c1 hr' (e ▸ hr))).trans h1,?_⟩
    rw [ho j hjb hjn]
    exact h2.mono hE.mu
 .rw [ho j (by omega) (by omega)]
  exact h.out j (by omega)
end
end Go.Ev
end
section
set_option maxRecDepth 100000
namespace Go.Ev
noncomputable def g80 {α:Type} (t:N8 α) (k:α->R):R:=N8.rec (motive:=λ_=>R) (λa0 a1 a2 a3 a4 a5 a6 a7=>k a0) t
noncomputable def u80 {α:Type} (t:N8 α) (f:α->(α->R)->R) (k:N8 α->R):R:=N8.rec (motive:=λ_=>R) (λa0 a1 a2 a3 a4 a5 a6 a7=>f a0 λx=>k (N8.mk x a1 a2 a3 a4 a5 a6 a7)) t
noncomputable def g81 {α:Type} (t:N8 α) (k:α->R):R:=N8.rec (motive:=λ_=>R) (λa0 a1 a2 a3 a4 a5 a6 a7=>k a1) t
noncomputable def u81 {α:Type} (t:N8 α) (f:α->(α->R)->R) (k:N8 α->R):R:=N8.rec (motive:=λ_=>R) (λa0 a1 a2 a3 a4 a5 a6 a7=>f a1 λx=>k (N8.mk a0 x a2 a3 a4 a5 a6 a7)) t
noncomputable def g82 {α:Type} (t:N8 α) (k:α->R):R:=N8.rec (motive:=λ_=>R) (λa0 a1 a2 a3 a4 a5 a6 a7=>k a2) t
noncomputable def u82 {α:Type} (t:N8 α) (f:α->(α->R)->R) (k:N8 α->R):R:=N8.rec (motive:=λ_=>R) (λa0 a1 a2 a3 a4 a5 a6 a7=>f a2 λx=>k (N8.mk a0 a1 x a3 a4 a5 a6 a7)) t
noncomputable def g83 {α:Type} (t:N8 α) (k:α->R):R:=N8.rec (motive:=λ_=>R) (λa0 a1 a2 a3 a4 a5 a6 a7=>k a3) t
noncomputable def u83 {α:Type} (t:N8 α) (f:α->(α->R)->R) (k:N8 α->R):R:=N8.rec (motive:=λ_=>R) (λa0 a1 a2 a3 a4 a5 a6 a7=>f a3 λx=>k (N8.mk a0 a1 a2 x a4 a5 a6 a7)) t
noncomputable def g84 {α:Type} (t:N8 α) (k:α->R):R:=N8.rec (motive:=λ_=>R) (λa0 a1 a2 a3 a4 a5 a6 a7=>k a4) t
noncomputable def u84 {α:Type} (t:N8 α) (f:α->(α->R)->R) (k:N8 α->R):R:=N8.rec (motive:=λ_=>R) (λa0 a1 a2 a3 a4 a5 a6 a7=>f a4 λx=>k (N8.mk a0 a1 a2 a3 x a5 a6 a7)) t
noncomputable def g85 {α:Type} (t:N8 α) (k:α->R):R:=N8.rec (motive:=λ_=>R) (λa0 a1 a2 a3 a4 a5 a6 a7=>k a5) t
noncomputable def u85 {α:Type} (t:N8 α) (f:α->(α->R)->R) (k:N8 α->R):R:=N8.rec (motive:=λ_=>R) (λa0 a1 a2 a3 a4 a5 a6 a7=>f a5 λx=>k (N8.mk a0 a1 a2 a3 a4 x a6 a7)) t
noncomputable def g86 {α:Type} (t:N8 α) (k:α->R):R:=N8.rec (motive:=λ_=>R) (λa0 a1 a2 a3 a4 a5 a6 a7=>k a6) t
noncomputable def u86 {α:Type} (t:N8 α) (f:α->(α->R)->R) (k:N8 α->R):R:=N8.rec (motive:=λ_=>R) (λa0 a1 a2 a3 a4 a5 a6 a7=>f a6 λx=>k (N8.mk a0 a1 a2 a3 a4 a5 x a7)) t
noncomputable def g87 {α:Type} (t:N8 α) (k:α->R):R:=N8.rec (motive:=λ_=>R) (λa0 a1 a2 a3 a4 a5 a6 a7=>k a7) t
noncomputable def u87 {α:Type} (t:N8 α) (f:α->(α->R)->R) (k:N8 α->R):R:=N8.rec (motive:=λ_=>R) (λa0 a1 a2 a3 a4 a5 a6 a7=>f a7 λx=>k (N8.mk a0 a1 a2 a3 a4 a5 a6 x)) t
noncomputable def g8 {α:Type} (i:I8):N8 α->(α->R)->R:=I8.rec (motive:=λ_=>N8 α->(α->R)->R) g80 g81 g82 g83 g84 g85 g86 g87 i
noncomputable def u8 {α:Type} (i:I8):N8 α->(α->(α->R)->R)->(N8 α->R)->R:=I8.rec (motive:=λ_=>N8 α->(α->(α->R)->R)->(N8 α->R)->R) u80 u81 u82 u83 u84 u85 u86 u87 i
noncomputable def gV (s:Slot) (e:Env) (k:V->R):R:=Slot.rec (motive:=λ_=>R) (λa b c=>g8 a e λt=>g8 b t λu=>g8 c u k) s
noncomputable def HE (s:Slot) (v:V) (e:Env) (k:Env->R):R:=Slot.rec (motive:=λ_=>R) (λa b c=>u8 a e (λt k1=>u8 b t (λu k2=>u8 c u (λ_ k3=>k3 v) k2) k1) k) s
noncomputable def aI (a:Arg) (e:Env) (k:V->R):R:=Arg.rec (motive:=λ_=>R) (λs=>gV s e k) (λv=>k v) a
noncomputable def nZ (l:List Arg) (e:Env):(List V->R)->R:=List.rec (motive:=λ_=>(List V->R)->R) (λk=>k []) (λa _ ih k=>aI a e λv=>ih λr=>k (v :: r)) l
noncomputable def av (n:Nat) (k:Nat->R):R:=Nat.rec (motive:=λ_=>R) (k Nat.zero) (λm _=>k (WH m)) n
noncomputable def aE (c:Bool) (t f:R):R:=Bool.rec (motive:=λ_=>R) f t c
noncomputable def cC (id:Nat) (x:V) (k:Nat->Nat->R):R:=V.rec (motive_1:=λ_=>R) (motive_2:=λ_=>R) (k) (λ_=>no 0) (λ_ _=>no 0) (λ_ _=>no 0) (no 0) (λ_ _ _ _ _=>no 0) (no 0) (λ_=>no 0) (no 0) (λ_ _ _=>no 0) (λ_=>no 0) (no 0) (λ_ _ _=>no 0) (no 0) (λ_ _=>no 0) (λ_ _=>no 0) (0:R) (λ_ _ _ _=>(0:R)) x
noncomputable def eF (id:Nat) (x:V) (k:Bool->R):R:=V.rec (motive_1:=λ_=>R) (motive_2:=λ_=>R) (λ_ _=>no 0) (k) (λ_ _=>no 0) (λ_ _=>no 0) (no 0) (λ_ _ _ _ _=>no 0) (no 0) (λ_=>no 0) (no 0) (λ_ _ _=>no 0) (λ_=>no 0) (no 0) (λ_ _ _=>no 0) (no 0) (λ_ _=>no 0) (λ_ _=>no 0) (0:R) (λ_ _ _ _=>(0:R)) x
noncomputable def ec (id:Nat) (x:V) (k:Nat->Nat->R):R:=V.rec (motive_1:=λ_=>R) (motive_2:=λ_=>R) (λ_ _=>no 0) (λ_=>no 0) (k) (λ_ _=>no 0) (no 0) (λ_ _ _ _ _=>no 0) (no 0) (λ_=>no 0) (no 0) (λ_ _ _=>no 0) (λ_=>no 0) (no 0) (λ_ _ _=>no 0) (no 0) (λ_ _=>no 0) (λ_ _=>no 0) (0:R) (λ_ _ _ _=>(0:R)) x
noncomputable def dQ (id:Nat) (x:V) (k:Nat->Nat->R):R:=V.rec (motive_1:=λ_=>R) (motive_2:=λ_=>R) (λ_ _=>no 0) (λ_=>no 0) (λ_ _=>no 0) (k) (no 0) (λ_ _ _ _ _=>no 0) (no 0) (λ_=>no 0) (no 0) (λ_ _ _=>no 0) (λ_=>no 0) (no 0) (λ_ _ _=>no 0) (no 0) (λ_ _=>no 0) (λ_ _=>no 0) (0:R) (λ_ _ _ _=>(0:R)) x
noncomputable def lF (id:Nat) (x:V) (k:Nat->Nat->Nat->Nat->Nat->R):R:=V.rec (motive_1:=λ_=>R) (motive_2:=λ_=>R) (λ_ _=>no 0) (λ_=>no 0) (λ_ _=>no 0) (λ_ _=>no 0) (no 0) (k) (no 0) (λ_=>no 0) (no 0) (λ_ _ _=>no 0) (λ_=>no 0) (no 0) (λ_ _ _=>no 0) (no 0) (λ_ _=>no 0) (λ_ _=>no 0) (0:R) (λ_ _ _ _=>(0:R)) x
noncomputable def bz (id:Nat) (x:V) (k:Nat->Nat->Nat->Nat->Nat->R) (z:R):R:=V.rec (motive_1:=λ_=>R) (motive_2:=λ_=>R) (λ_ _=>no 0) (λ_=>no 0) (λ_ _=>no 0) (λ_ _=>no 0) (no 0) (k) (z) (λ_=>no 0) (no 0) (λ_ _ _=>no 0) (λ_=>no 0) (no 0) (λ_ _ _=>no 0) (no 0) (λ_ _=>no 0) (λ_ _=>no 0) (0:R) (λ_ _ _ _=>(0:R)) x
noncomputable def EL (id:Nat) (x:V) (k:Nat->R):R:=V.rec (motive_1:=λ_=>R) (motive_2:=λ_=>R) (λ_ _=>no 0) (λ_=>no 0) (λ_ _=>no 0) (λ_ _=>no 0) (no 0) (λ_ _ _ _ _=>no 0) (no 0) (k) (no 0) (λ_ _ _=>no 0) (λ_=>no 0) (no 0) (λ_ _ _=>no 0) (no 0) (λ_ _=>no 0) (λ_ _=>no 0) (0:R) (λ_ _ _ _=>(0:R)) x
noncomputable def qg (id:Nat) (x:V) (k:Nat->R) (z:R):R:=V.rec (motive_1:=λ_=>R) (motive_2:=λ_=>R) (λ_ _=>no 0) (λ_=>no 0) (λ_ _=>no 0) (λ_ _=>no 0) (no 0) (λ_ _ _ _ _=>no 0) (no 0) (k) (z) (λ_ _ _=>no 0) (λ_=>no 0) (no 0) (λ_ _ _=>no 0) (no 0) (λ_ _=>no 0) (λ_ _=>no 0) (0:R) (λ_ _ _ _=>(0:R)) x
noncomputable def xK (id:Nat) (x:V) (k:Nat->List V->R):R:=V.rec (motive_1:=λ_=>R) (motive_2:=λ_=>R) (λ_ _=>no 0) (λ_=>no 0) (λ_ _=>no 0) (λ_ _=>no 0) (no 0) (λ_ _ _ _ _=>no 0) (no 0) (λ_=>no 0) (no 0) (λf l _=>k f l) (λ_=>no 0) (no 0) (λ_ _ _=>no 0) (no 0) (λ_ _=>no 0) (λ_ _=>no 0) (0:R) (λ_ _ _ _=>(0:R)) x
noncomputable def jj (id:Nat) (x:V) (k:List V->R):R:=V.rec (motive_1:=λ_=>R) (motive_2:=λ_=>R) (λ_ _=>no 0) (λ_=>no 0) (λ_ _=>no 0) (λ_ _=>no 0) (no 0) (λ_ _ _ _ _=>no 0) (no 0) (λ_=>no 0) (no 0) (λ_ _ _=>no 0) (λ_=>no 0) (no 0) (λ_ _ _=>no 0) (no 0) (λl _=>k l) (λ_ _=>no 0) (0:R) (λ_ _ _ _=>(0:R)) x
noncomputable def vIf (id t:Nat) (x:V) (k:V->R):R:=V.rec (motive_1:=λ_=>R) (motive_2:=λ_=>R) (λ_ _=>no 0) (λ_=>no 0) (λ_ _=>no 0) (λ_ _=>no 0) (no 0) (λ_ _ _ _ _=>no 0) (no 0) (λ_=>no 0) (no 0) (λ_ _ _=>no 0) (λ_=>no 0) (no 0) (λt' v _=>aE (YL t' t) (k v) (no 0)) (no 0) (λ_ _=>no 0) (λ_ _=>no 0) (0:R) (λ_ _ _ _=>(0:R)) x
noncomputable def yk (id:Nat) (x:V) (k:List V->R):R:=V.rec (motive_1:=λ_=>R) (motive_2:=λ_=>R) (λ_ _=>no 0) (λ_=>no 0) (λ_ _=>no 0) (λ_ _=>no 0) (no 0) (λ_ _ _ _ _=>no 0) (no 0) (λ_=>no 0) (no 0) (λ_ _ _=>no 0) (λ_=>no 0) (no 0) (λ_ _ _=>no 0) (no 0) (λ_ _=>no 0) (λl _=>k l) (0:R) (λ_ _ _ _=>(0:R)) x
noncomputable def nth (id:Nat) (l:List V):Nat->(V->R)->R:=List.rec (motive:=λ_=>Nat->(V->R)->R) (λ_ _=>no 0) (λv _ ih i k=>Nat.rec (motive:=λ_=>R) (k v) (λj _=>ih j k) i) l
noncomputable def takeN (id:Nat) (l:List V):Nat->(List V->R)->R:=List.rec (motive:=λ_=>Nat->(List V->R)->R) (λi k=>Nat.rec (motive:=λ_=>R) (k []) (λ_ _=>no 0) i) (λv _ ih i k=>Nat.rec (motive:=λ_=>R) (k []) (λj _=>ih j λr=>k (v :: r)) i) l
noncomputable def eY (id:Nat) (l:List V):Nat->(List V->R)->R:=List.rec (motive:=λ_=>Nat->(List V->R)->R) (λi k=>Nat.rec (motive:=λ_=>R) (k []) (λ_ _=>no 0) i) (λv l ih i k=>Nat.rec (motive:=λ_=>R) (k (v :: l)) (λj _=>ih j k) i) l
noncomputable def iZ (l m:List V):(List V->R)->R:=List.rec (motive:=λ_=>(List V->R)->R) (λk=>k m) (λv _ ih k=>ih λr=>k (v :: r)) l
noncomputable def over (id:Nat) (m:List V):List V->(List V->R)->R:=List.rec (motive:=λ_=>List V->(List V->R)->R) (λl k=>k l) (λx _ ih l k=>List.rec (motive:=λ_=>R) (no 0) (λ_ r _=>ih r λq=>k (x :: q)) l) m
noncomputable def setAt (id:Nat) (m l:List V):Nat->(List V->R)->R:=List.rec (motive:=λ_=>Nat->(List V->R)->R) (λi k=>Nat.rec (motive:=λ_=>R) (over id m [] k) (λ_ _=>no 0) i) (λv l ih i k=>Nat.rec (motive:=λ_=>R) (over id m (v :: l) k) (λj _=>ih j λr=>k (v :: r)) i) l
noncomputable def eR (l:List V):Nat:=List.rec (motive:=λ_=>Nat) 0 (λ_ _ ih=>WH ih) l
noncomputable def Ty (m:List V) (n:Nat):(List V->R)->R:=Nat.rec (motive:=λ_=>(List V->R)->R) (λk=>k []) (λ_ ih k=>ih λr=>iZ m r k) n
noncomputable def dZ (id:Nat) (x:V) (k:R):R:=V.rec (motive_1:=λ_=>R) (motive_2:=λ_=>R) (λ_ _=>k) (λ_=>k) (λ_ _=>k) (λ_ _=>k) (k) (λ_ _ _ _ _=>k) (k) (λ_=>k) (k) (λ_ _ _=>k) (λ_=>k) (k) (λ_ _ _=>k) (k) (λ_ _=>no 0) (λ_ _=>no 0) (0:R) (λ_ _ _ _=>(0:R)) x
noncomputable def bq (id:Nat) (l:List V) (k:R):R:=List.rec (motive:=λ_=>R) k (λv _ ih=>dZ id v ih) l
noncomputable def ib (id:Nat) (l:List V):(Nat->Nat->R)->R:=List.rec (motive:=λ_=>(Nat->Nat->R)->R) (λk=>k 0 0) (λv _ ih k=>cC id v λkd x=>aE (YL kd 4) (ih λlen n=>av (YX x (Yg 256 n)) λn'=>av (WH len) λlen'=>k len' n') (no 0)) l
noncomputable def pM (len:Nat):Nat->(List V->R)->R:=Nat.rec (motive:=λ_=>Nat->(List V->R)->R) (λ_ k=>k []) (λ_ ih n k=>av (Yr n 256) λx=>av (WX n 256) λn'=>ih n' λr=>k (.int 4 x :: r)) len
noncomputable def dO (id:Nat) (x:V) (k:List V->R):R:=V.rec (motive_1:=λ_=>R) (motive_2:=λ_=>R) (λkd n=>k [.int kd n]) (λb=>k [.bool b]) (λl n=>k [.str l n]) (λb o=>k [.ptr b o]) (k [.iS]) (λb o l c s=>k [.slice b o l c s]) (k [.aw]) (λb=>k [.map b]) (k [.xc]) (λf l ih=>k [.func f l]) (λb=>k [.su b]) (k [.tp]) (λt v ih=>k [.iface t v]) (k [.DM]) (λl _=>k l) (λ_ _=>no 0) (0:R) (λ_ _ _ _=>(0:R)) x
noncomputable def ri (id:Nat) (b:ee) (kc:List V->R) (kb:Nat->Nat->R):R:=ee.rec (motive:=λ_=>R) (no 0) kc kb (λ_=>no 0) (no 0) (λ_ _ _ _ _ _=>no 0) (λ_=>no 0) b
noncomputable def Zp (id:Nat) (b:ee) (kc:List V->R) (kb:Nat->Nat->R) (kv:List V->R):R:=ee.rec (motive:=λ_=>R) (no 0) kc kb (λ_=>no 0) (no 0) (λ_ _ _ _ _ _=>no 0) kv b
noncomputable def rh (id:Nat) (b:ee) (km:List (V × V)->R):R:=ee.rec (motive:=λ_=>R) (no 0) (λ_=>no 0) (λ_ _=>no 0) km (no 0) (λ_ _ _ _ _ _=>no 0) (λ_=>no 0) b
noncomputable def eK (b:ee) (k:Nat->Nat->Env->List Slot->RC->RC->R):R:=ee.rec (motive:=λ_=>R) (no 9) (λ_=>no 9) (λ_ _=>no 9) (λ_=>no 9) (no 9) k (λ_=>no 9) b
noncomputable def dC (H:Heap) (b:Nat) (k:ee->R):R:=Heap.rec (motive:=λ_=>R) (λ_ _ t=>k (HT.get t b)) H
noncomputable def cV (id:Nat) (H:Heap) (b:Nat) (x:ee) (k:Heap->R):R:=Heap.rec (motive:=λ_=>R) (λn bC t=>aE (Yv b n) (HT.set x t b λt'=>aE (YS bC b) (k (.mk n bC t')) (k (.mk n b t'))) (no 0)) H
noncomputable def cA (H:Heap) (x:ee) (k:Nat->Heap->R):R:=Heap.rec (motive:=λ_=>R) (λn bC t=>HT.set x t n λt'=>av (WH n) λn'=>k n (.mk n' bC t')) H
noncomputable def mY (id:Nat) (H:Heap) (b off:Nat) (k:V->R):R:=dC H b λbl=>ri id bl (λl=>nth id l off k) λlen n=>aE (Yv off len) (av (Qu (Yx n (Yg 8 off)) 255) λx=>k (.int 4 x)) (no 0)
noncomputable def Jk (id:Nat) (H:Heap) (b off:Nat) (k:V->R):R:=dC H b λbl=>Zp id bl (λl=>nth id l off k) (λlen n=>aE (Yv off len) (av (Qu (Yx n (Yg 8 off)) 255) λx=>k (.int 4 x)) (no 0)) λl=>nth id l off λv=>dZ id v (k v)
noncomputable def D6 (id:Nat) (H:Heap) (b off n:Nat) (k:List V->R):R:=dC H b λbl=>Zp id bl (λl=>eY id l off λr=>takeN id r n k) (λlen x=>aE (YS (YX off n) len) (pM n (Yx x (Yg 8 off)) k) (no 0)) λl=>eY id l off λr=>takeN id r n λq=>bq id q (k q)
noncomputable def dU (id:Nat) (H:Heap) (b off n:Nat) (k:List V->R):R:=dC H b λbl=>ri id bl (λl=>eY id l off λr=>takeN id r n k) λlen x=>aE (YS (YX off n) len) (pM n (Yx x (Yg 8 off)) k) (no 0)
noncomputable def lX (id:Nat) (H:Heap) (b off n:Nat) (k:Nat->R):R:=dC H b λbl=>ri id bl (λl=>eY id l off λr=>takeN id r n λq=>ib id q λ_ x=>k x) λlen x=>aE (YS (YX off n) len) (av (Yr (Yx x (Yg 8 off)) (YB1 256 n)) k) (no 0)
noncomputable def ez (id:Nat) (H:Heap) (b off:Nat) (m:List V) (k:Heap->R):R:=dC H b λbl=>ri id bl (λl=>bq id m (setAt id m l off λl'=>cV id H b (.cells l') k))
 λlen x=>ib id m λml mx=>aE (YS (YX off ml) len)
  (av (YX (Yr x (YB1 256 off)) (Yp (YX mx (Yp (Yx x (Yg 8 (YX off ml))) (Yg 8 ml))) (Yg 8 off))) λx'=>cV id H b (.bytes len x') k) (no 0)
noncomputable def iA (id:Nat) (f:BF):Nat->Nat->(Nat->R)->R:=BF.rec (motive:=λ_=>Nat->Nat->(Nat->R)->R)
 (λm a b k=>av (Yr (YX a b) m) k)
 (λm a b k=>av (Yr (YX a (Wx m b)) m) k)
 (λm a b k=>av (Yr (Yg a b) m) k)
 (λa b k=>av (Qu a b) k)
 (λa b k=>av (Nat.lor a b) k)
 (λa b k=>av (YM1 a b) k)
 (λm a b k=>av (Qu a (YM1 b (Nat.pred m))) k)
 (λm bits a b k=>aE (YS b bits) (av (Yr (Yp a b) m) k) (aE (Yv b 9223372036854775808) (k 0) (no 0)))
 (λhalf bits a b k=>aE (Yv a half) (aE (YS b bits) (av (Yx a b) k) (aE (Yv b 9223372036854775808) (k 0) (no 0))) (no 0))
 (λhalf a b k=>aE (Yv a half) (aE (Yv b half) (aE (YL b 0) (no 0) (av (WX a b) k)) (no 0)) (no 0))
 (λhalf a b k=>aE (Yv a half) (aE (Yv b half) (aE (YL b 0) (no 0) (av (Yr a b) k)) (no 0)) (no 0))
 f
noncomputable def dN (f:CF):Nat->Nat->Bool:=CF.rec (motive:=λ_=>Nat->Nat->Bool)
 (λa b=>YL a b) (λa b=>Bool.rec true false (YL a b))
 (λo m a b=>Yv (Yr (YX a o) m) (Yr (YX b o) m))
 (λo m a b=>YS (Yr (YX a o) m) (Yr (YX b o) m))
 (λo m a b=>Yv (Yr (YX b o) m) (Yr (YX a o) m))
 (λo m a b=>YS (Yr (YX b o) m) (Yr (YX a o) m))
 f
abbrev K:=V->Heap->R
abbrev dg:=V->List V->Heap->K->R
noncomputable def ael (id:Nat) (ph:dg) (e:Env) (H:Heap) (k:K):R:=no 0
noncomputable def aem (x:Arg) (id:Nat) (ph:dg) (e:Env) (H:Heap) (k:K):R:=aI x e λv=>k v H
noncomputable def aaK (c x y:Arg) (id:Nat) (ph:dg) (e:Env) (H:Heap) (k:K):R:=aI c e λc=>eF id c λb=>aE b (aI x e λv=>k v H) (aI y e λv=>k v H)
noncomputable def aaJ (z:List V) (id:Nat) (ph:dg) (e:Env) (H:Heap) (k:K):R:=cA H (.cells z) λn H=>k (.ptr n 0) H
noncomputable def aaI (n:Nat) (id:Nat) (ph:dg) (e:Env) (H:Heap) (k:K):R:=cA H (.bytes n 0) λn H=>k (.ptr n 0) H
noncomputable def Nq (x:Arg) (id:Nat) (ph:dg) (e:Env) (H:Heap) (k:K):R:=aI x e λv=>dO id v λl=>bq id l (cA H (.cells l) λn H=>k (.ptr n 0) H)
noncomputable def jU (id:Nat) (e:Env) (parts:List (Nat × Nat × Arg)):List V->(List V->R)->R:=List.rec (motive:=λ_=>List V->(List V->R)->R) (λz k=>k z)
 (λp _ ih z k=>YG4 (motive:=λ_=>R) (λoff q=>YG4 (motive:=λ_=>R) (λsize a=>aI a e λv=>dO id v λl=>aE (YL (eR l) size) (setAt id l z off λz'=>ih z' k) (no 0)) q) p) parts
noncomputable def Nr (zero:List V) (parts:List (Nat × Nat × Arg)) (id:Nat) (ph:dg) (e:Env) (H:Heap) (k:K):R:=jU id e parts zero λl=>k (.agg l) H
noncomputable def AJ (u8:Bool) (len:Nat) (zero:List V) (parts:List (Nat × Nat × Arg)) (id:Nat) (ph:dg) (e:Env) (H:Heap) (k:K):R:=
 jU id e parts zero λl=>aE u8 (ib id l λln n=>cA H (.bytes ln n) λb H=>k (.slice b 0 len (WH len) 0) H) (bq id l (cA H (.cells l) λb H=>k (.slice b 0 len (WH len) 0) H))
noncomputable def qB (a:Arg) (id:Nat) (ph:dg) (e:Env) (H:Heap) (k:K):R:=aI a e λa=>dQ id a λb o=>Jk id H b o λv=>k v H
noncomputable def qC (n:Nat) (a:Arg) (id:Nat) (ph:dg) (e:Env) (H:Heap) (k:K):R:=aI a e λa=>dQ id a λb o=>D6 id H b o n λl=>k (.agg l) H
noncomputable def vd (a x:Arg) (id:Nat) (ph:dg) (e:Env) (H:Heap) (k:K):R:=aI a e λa=>dQ id a λb o=>aI x e λx=>dZ id x (ez id H b o [x] λH=>k (.cE []) H)
noncomputable def ve (n:Nat) (a x:Arg) (id:Nat) (ph:dg) (e:Env) (H:Heap) (k:K):R:=aI a e λa=>dQ id a λb o=>aI x e λx=>jj id x λl=>aE (YL (eR l) n) (ez id H b o l λH=>k (.cE []) H) (no 0)
noncomputable def IS (x:Arg) (id:Nat) (ph:dg) (e:Env) (H:Heap) (k:K):R:=aI x e λv=>V.rec (motive_1:=λ_=>R) (motive_2:=λ_=>R) (λkd n=>k (.int kd n) H) (λb=>k (.bool b) H) (λl n=>k (.str l n) H) (λb o=>k (.ptr b o) H) (no 0) (λb o l c s=>k (.slice b o l c s) H) (k .aw H) (λb=>k (.map b) H) (k .xc H) (λf l ih=>k (.func f l) H) (λb=>k (.su b) H) (no 0) (λt v ih=>k (.iface t v) H) (no 0) (λl ih=>k (.agg l) H) (λl ih=>k (.cE l) H) (0:R) (λ_ _ _ _=>(0:R)) v
noncomputable def JO (kd ky:Nat) (f:BF) (x y:Arg) (id:Nat) (ph:dg) (e:Env) (H:Heap) (k:K):R:=aI x e λx=>cC id x λk1 a=>aI y e λy=>cC id y λk2 b=>aE (YL k1 kd) (aE (YL k2 ky) (iA id f a b λr=>k (.int kd r) H) (no 0)) (no 0)
noncomputable def V8 (kd:Nat) (f:CF) (x y:Arg) (id:Nat) (ph:dg) (e:Env) (H:Heap) (k:K):R:=aI x e λx=>cC id x λk1 a=>aI y e λy=>cC id y λk2 b=>aE (YL k1 kd) (aE (YL k2 kd) (aE (dN f a b) (k (.bool true) H) (k (.bool false) H)) (no 0)) (no 0)
noncomputable def CV (x y:Arg) (id:Nat) (ph:dg) (e:Env) (H:Heap) (k:K):R:=aI x e λx=>ec id x λl1 n1=>aI y e λy=>ec id y λl2 n2=>av (YX l1 l2) λl=>aE (Yv l 9223372036854775808) (av (YX n1 (Yp n2 (Yg 8 l1))) λn=>k (.str l n) H) (no 0)
noncomputable def NH (neg:Bool) (x y:Arg) (id:Nat) (ph:dg) (e:Env) (H:Heap) (k:K):R:=aI x e λx=>ec id x λl1 n1=>aI y e λy=>ec id y λl2 n2=>aE (YL l1 l2) (aE (YL n1 n2) (aE neg (k (.bool false) H) (k (.bool true) H)) (k (.bool neg) H)) (k (.bool neg) H)
noncomputable def gf (id:Nat) (x:V) (k:Nat->R):R:=V.rec (motive_1:=λ_=>R) (motive_2:=λ_=>R) (λ_ _=>no 0) (λb=>aE b (k 2) (k 3)) (λ_ _=>no 0) (λ_ _=>k 11) (k 10) (λ_ _ _ _ _=>k 21) (k 20) (λ_=>k 31) (k 30) (λ_ _ _=>k 41) (λ_=>no 0) (k 40) (λ_ _ _=>k 51) (k 50) (λ_ _=>no 0) (λ_ _=>no 0) (0:R) (λ_ _ _ _=>(0:R)) x
noncomputable def Sp (kc:Nat) (neg:Bool) (x y:Arg) (id:Nat) (ph:dg) (e:Env) (H:Heap) (k:K):R:=aI x e λx=>gf id x λa=>aI y e λy=>gf id y λb=>aE (YL (WX a 10) kc) (aE (YL (WX b 10) kc) (aE (YL a b) (aE (YL (Yr a 10) 1) (no 0) (aE neg (k (.bool false) H) (k (.bool true) H))) (k (.bool neg) H)) (no 0)) (no 0)
noncomputable def NB (x:Arg) (id:Nat) (ph:dg) (e:Env) (H:Heap) (k:K):R:=aI x e λx=>eF id x λb=>aE b (k (.bool false) H) (k (.bool true) H)
noncomputable def FQ (src dst mode c:Nat) (x:Arg) (id:Nat) (ph:dg) (e:Env) (H:Heap) (k:K):R:=aI x e λx=>cC id x λk1 a=>aE (YL k1 src) (Nat.rec (motive:=λ_=>R) (av (Yr a c) λr=>k (.int dst r) H) (λ_ _=>aE (Yv a mode) (k (.int dst a) H) (av (YX a c) λr=>k (.int dst r) H)) mode) (no 0)
noncomputable def wo (x:Arg) (id:Nat) (ph:dg) (e:Env) (H:Heap) (k:K):R:=aI x e λx=>bz id x (λb o l _ _=>lX id H b o l λn=>k (.str l n) H) (k (.str 0 0) H)
noncomputable def wq (x:Arg) (id:Nat) (ph:dg) (e:Env) (H:Heap) (k:K):R:=aI x e λx=>ec id x λl n=>aE (YS l 16777216) (cA H (.bytes l n) λb H=>k (.slice b 0 l 0 1) H) (no 0)
noncomputable def Xf (t:Nat) (x:Arg) (id:Nat) (ph:dg) (e:Env) (H:Heap) (k:K):R:=aI x e λx=>vIf id t x λv=>k (.cE [v,.bool true]) H
noncomputable def W8 (t:Nat) (x:Arg) (id:Nat) (ph:dg) (e:Env) (H:Heap) (k:K):R:=aI x e λv=>k (.iface t v) H
noncomputable def NF (f:Nat) (caps:List Arg) (id:Nat) (ph:dg) (e:Env) (H:Heap) (k:K):R:=nZ caps e λl=>k (.func f l) H
noncomputable def Xa (id:Nat) (ph:dg) (e:Env) (H:Heap) (k:K):R:=cA H (.map []) λb H=>k (.map b) H
noncomputable def wu (u8:Bool) (zero:List V) (l c:Arg) (id:Nat) (ph:dg) (e:Env) (H:Heap) (k:K):R:=aI l e λl=>cC id l λkl l=>aI c e λc=>cC id c λkc c=>aE (YS 3 kl) (aE (YS 3 kc) (aE (YS l c) (aE (YS c 16777216)
 (aE u8 (cA H (.bytes c 0) λb H=>av (WH c) λc1=>k (.slice b 0 l c1 0) H) (Ty zero c λr=>bq id r (cA H (.cells r) λb H=>av (WH c) λc1=>k (.slice b 0 l c1 0) H))) (no 0)) (no 0)) (no 0)) (no 0)
noncomputable def gj (id:Nat) (x:Option Arg) (e:Env) (d:Nat) (k:Nat->R):R:=Option.rec (motive:=λ_=>R) (k d) (λa=>aI a e λv=>cC id v λkd n=>aE (YS 3 kd) (aE (Yv n 9223372036854775808) (k n) (no 0)) (no 0)) x
noncomputable def Xd (x:Arg) (lo hi:Option Arg) (id:Nat) (ph:dg) (e:Env) (H:Heap) (k:K):R:=aI x e λx=>ec id x λlen n=>gj id hi e len λh=>gj id lo e 0 λl=>aE (YS l h) (aE (YS h len) (av (Wx h l) λd=>av (Yr (Yx n (Yg 8 l)) (YB1 256 d)) λr=>k (.str d r) H) (no 0)) (no 0)
noncomputable def Xe (size:Nat) (x:Arg) (lo hi mx:Option Arg) (id:Nat) (ph:dg) (e:Env) (H:Heap) (k:K):R:=aI x e λx=>bz id x (λb o len cp sz=>
 gj id lo e 0 λl=>gj id hi e len λh=>aE (YS l h) (av (Wx h l) λd=>
  Option.rec (motive:=λ_=>R)
   (Nat.rec (motive:=λ_=>R)
    (aE (YS h len) (aE (YL sz size) (av (YX o (Yg l size)) λo'=>k (.slice b o' d 0 sz) H) (no 0)) (no 0))
    (λq _=>aE (YS h q) (aE (YL q l) (k (.slice b o d 1 0) H) (av (YX o (Yg l size)) λo'=>av (WH (Wx q l)) λc'=>k (.slice b o' d c' 0) H)) (no 0)) cp)
   (λm=>gj id (some m) e 0 λm=>aE (YS h m) (aE (YS m (Nat.rec (motive:=λ_=>Nat) len (λq _=>q) cp)) (aE (YL m l) (k (.slice b o d 1 0) H) (av (YX o (Yg l size)) λo'=>av (WH (Wx m l)) λc'=>k (.slice b o' d c' 0) H)) (no 0)) (no 0)) mx) (no 0))
 (gj id lo e 0 λl=>gj id hi e 0 λh=>gj id mx e 0 λm=>aE (YL l 0) (aE (YL h 0) (aE (YL m 0) (k .aw H) (no 0)) (no 0)) (no 0))
noncomputable def Xc (n size:Nat) (x:Arg) (lo hi mx:Option Arg) (id:Nat) (ph:dg) (e:Env) (H:Heap) (k:K):R:=aI x e λx=>dQ id x λb o=>gj id mx e n λm=>gj id hi e n λh=>gj id lo e 0 λl=>aE (YS l h) (aE (YS h m) (aE (YS m n) (av (Wx h l) λd=>aE (YL m l) (k (.slice b o d 1 0) H) (av (YX o (Yg l size)) λo'=>av (WH (Wx m l)) λc'=>k (.slice b o' d c' 0) H)) (no 0)) (no 0)) (no 0)
noncomputable def Nv (off:Nat) (x:Arg) (id:Nat) (ph:dg) (e:Env) (H:Heap) (k:K):R:=aI x e λx=>dQ id x λb o=>av (YX o off) λo'=>k (.ptr b o') H
noncomputable def Nw (off:Nat) (x:Arg) (id:Nat) (ph:dg) (e:Env) (H:Heap) (k:K):R:=aI x e λx=>jj id x λl=>nth id l off λv=>k v H
noncomputable def Nx (off n:Nat) (x:Arg) (id:Nat) (ph:dg) (e:Env) (H:Heap) (k:K):R:=aI x e λx=>jj id x λl=>eY id l off λr=>takeN id r n λq=>k (.agg q) H
noncomputable def idx (id:Nat) (i:Arg) (e:Env) (len:Nat) (k:Nat->R):R:=aI i e λv=>cC id v λkd n=>aE (YS 3 kd) (aE (Yv n len) (aE (Yv n 9223372036854775808) (k n) (no 0)) (no 0)) (no 0)
noncomputable def V9 (len size:Nat) (x i:Arg) (id:Nat) (ph:dg) (e:Env) (H:Heap) (k:K):R:=aI x e λx=>dQ id x λb o=>idx id i e len λn=>av (YX o (Yg n size)) λo'=>k (.ptr b o') H
noncomputable def W6 (size:Nat) (x i:Arg) (id:Nat) (ph:dg) (e:Env) (H:Heap) (k:K):R:=aI x e λx=>lF id x λb o len _ _=>idx id i e len λn=>av (YX o (Yg n size)) λo'=>k (.ptr b o') H
noncomputable def W2 (x i:Arg) (id:Nat) (ph:dg) (e:Env) (H:Heap) (k:K):R:=aI x e λx=>ec id x λlen m=>idx id i e len λn=>av (Qu (Yx m (Yg 8 n)) 255) λr=>k (.int 4 r) H
noncomputable def W0 (len size:Nat) (agg:Bool) (x i:Arg) (id:Nat) (ph:dg) (e:Env) (H:Heap) (k:K):R:=aI x e λx=>jj id x λl=>idx id i e len λn=>aE agg (eY id l (Yg n size) λr=>takeN id r size λq=>k (.agg q) H) (nth id l (Yg n size) λv=>k v H)
noncomputable def I0 (id:Nat) (ks:Bool) (x y:V) (k:Bool->R):R:=V.rec (motive_1:=λ_=>R) (motive_2:=λ_=>R) (λk1 a=>cC id y λk2 b=>aE ks (no 0) (aE (YL k1 k2) (k (YL a b)) (no 0))) (λ_=>no 0) (λl1 a=>ec id y λl2 b=>aE ks (aE (YL l1 l2) (k (YL a b)) (k false)) (no 0)) (λ_ _=>no 0) (no 0) (λ_ _ _ _ _=>no 0) (no 0) (λ_=>no 0) (no 0) (λ_ _ _=>no 0) (λ_=>no 0) (no 0) (λ_ _ _=>no 0) (no 0) (λ_ _=>no 0) (λ_ _=>no 0) (0:R) (λ_ _ _ _=>(0:R)) x
noncomputable def uj (id:Nat) (ks:Bool) (es:List (V × V)) (x:V) (f:V->R) (z:R):R:=List.rec (motive:=λ_=>R) z (λp _ ih=>YG4 (motive:=λ_=>R) (λa v=>I0 id ks x a λb=>aE b (f v) ih) p) es
noncomputable def Ex (id:Nat) (ks:Bool) (es:List (V × V)) (x y:V):(List (V × V)->R)->R:=List.rec (motive:=λ_=>(List (V × V)->R)->R) (λk=>k [(x,y)]) (λp l ih k=>YG4 (motive:=λ_=>R) (λa v=>I0 id ks x a λb=>aE b (k ((a,y):: l)) (ih λr=>k ((a,v):: r))) p) es
noncomputable def aaH (id:Nat) (ks:Bool) (es:List (V × V)) (x:V):(List (V × V)->R)->R:=List.rec (motive:=λ_=>(List (V × V)->R)->R) (λk=>k []) (λp l ih k=>YG4 (motive:=λ_=>R) (λa v=>I0 id ks x a λb=>aE b (k l) (ih λr=>k ((a,v):: r))) p) es
noncomputable def NC (ks:Bool) (zero:V) (ok:Bool) (m x:Arg) (id:Nat) (ph:dg) (e:Env) (H:Heap) (k:K):R:=aI m e λm=>aI x e λx=>
 qg id m (λb=>dC H b λbl=>rh id bl λes=>uj id ks es x (λv=>aE ok (k (.cE [v,.bool true]) H) (k v H)) (aE ok (k (.cE [zero,.bool false]) H) (k zero H))) (aE ok (k (.cE [zero,.bool false]) H) (k zero H))
noncomputable def isKey (id:Nat) (x:V) (k:R):R:=V.rec (motive_1:=λ_=>R) (motive_2:=λ_=>R) (λ_ _=>k) (λ_=>no 0) (λ_ _=>k) (λ_ _=>no 0) (no 0) (λ_ _ _ _ _=>no 0) (no 0) (λ_=>no 0) (no 0) (λ_ _ _=>no 0) (λ_=>no 0) (no 0) (λ_ _ _=>no 0) (no 0) (λ_ _=>no 0) (λ_ _=>no 0) (0:R) (λ_ _ _ _=>(0:R)) x
noncomputable def NG (ks:Bool) (m x y:Arg) (id:Nat) (ph:dg) (e:Env) (H:Heap) (k:K):R:=aI m e λm=>aI x e λx=>aI y e λy=>EL id m λb=>dC H b λbl=>rh id bl λes=>isKey id x (Ex id ks es x y λes'=>cV id H b (.map es') λH=>k (.cE []) H)
noncomputable def ND (ks:Bool) (m x:Arg) (id:Nat) (ph:dg) (e:Env) (H:Heap) (k:K):R:=aI m e λm=>aI x e λx=>EL id m λb=>dC H b λbl=>rh id bl λes=>aaH id ks es x λes'=>cV id H b (.map es') λH=>k (.cE []) H
noncomputable def Nu (x:Arg) (i:Nat) (id:Nat) (ph:dg) (e:Env) (H:Heap) (k:K):R:=aI x e λx=>yk id x λl=>nth id l i λv=>k v H
noncomputable def Ns (f:Nat) (args:List Arg) (id:Nat) (ph:dg) (e:Env) (H:Heap) (k:K):R:=nZ args e λl=>ph (.func f []) l H k
noncomputable def FP (x:Arg) (args:List Arg) (id:Nat) (ph:dg) (e:Env) (H:Heap) (k:K):R:=aI x e λx=>nZ args e λl=>ph x l H k
noncomputable def de (id:Nat) (size:Nat) (H:Heap) (x:V) (k:Nat->List V->R):R:=V.rec (motive_1:=λ_=>R) (motive_2:=λ_=>R) (λ_ _=>no 0) (λ_=>no 0) (λl n=>aE (YL size 1) (pM l n λm=>k l m) (no 0)) (λ_ _=>no 0) (no 0) (λb o l _ _=>Nat.rec (motive:=λ_=>R) (k 0 []) (λ_ _=>D6 id H b o (Yg l size) λm=>k l m) l) (k 0 []) (λ_=>no 0) (no 0) (λ_ _ _=>no 0) (λ_=>no 0) (no 0) (λ_ _ _=>no 0) (no 0) (λ_ _=>no 0) (λ_ _=>no 0) (0:R) (λ_ _ _ _=>(0:R)) x
noncomputable def xa (id:Nat) (H:Heap) (x:V) (k:Nat->Nat->R):R:=V.rec (motive_1:=λ_=>R) (motive_2:=λ_=>R) (λ_ _=>no 0) (λ_=>no 0) (λl n=>k l n) (λ_ _=>no 0) (no 0) (λb o l _ _=>lX id H b o l λm=>k l m) (k 0 0) (λ_=>no 0) (no 0) (λ_ _ _=>no 0) (λ_=>no 0) (no 0) (λ_ _ _=>no 0) (no 0) (λ_ _=>no 0) (λ_ _=>no 0) (0:R) (λ_ _ _ _=>(0:R)) x
noncomputable def qZ (id size:Nat) (n:Nat) (new:List V) (b o len cp sz:Nat) (H:Heap) (k:K):R:=bq id new (av (YX len n) λneed=>aE (YS need 1073741824) (
 Nat.rec (motive:=λ_=>R)
  (aE (YL sz size) (aE (YL o 0) (dC H b λbl=>ri id bl (λl=>aE (YL (eR l) (Yg len size)) (iZ l new λl'=>cV id H b .dead λH=>cA H (.cells l') λb' H=>k (.slice b' 0 need 0 size) H) (no 0)) (λ_ _=>no 0)) (no 0)) (no 0))
  (λq _=>aE (YS need q) (ez id H b (YX o (Yg len size)) new λH=>k (.slice b o need cp sz) H) (dU id H b o (Yg len size) λl=>bq id l (iZ l new λl'=>cA H (.cells l') λb' H=>k (.slice b' 0 need 0 size) H))) cp) (no 0))
noncomputable def IQ (size:Nat) (s x:Arg) (id:Nat) (e:Env) (H:Heap) (k:K):R:=aI s e λs=>aI x e λx=>de id size H x λn new=>
 bz id s (λb o len cp sz=>Nat.rec (motive:=λ_=>R) (k s H) (λ_ _=>qZ id size n new b o len cp sz H k) n)
  (Nat.rec (motive:=λ_=>R) (k s H) (λ_ _=>bq id new (aE (YS n 1073741824) (cA H (.cells new) λb' H=>k (.slice b' 0 n 0 size) H) (no 0))) n)
noncomputable def Jy (id:Nat) (n new:Nat) (b o len cp sz:Nat) (H:Heap) (k:K):R:=av (YX len n) λneed=>aE (YS need 1073741824) (
 Nat.rec (motive:=λ_=>R)
  (aE (YL sz 1) (aE (YL o 0) (dC H b λbl=>ri id bl (λ_=>no 0) (λln m=>aE (YL ln len) (av (YX m (Yp new (Yg 8 len))) λm'=>cV id H b .dead λH=>cA H (.bytes need m') λb' H=>k (.slice b' 0 need 0 1) H) (no 0))) (no 0)) (no 0))
  (λq _=>aE (YS need q) (no 0) (lX id H b o len λm=>av (YX m (Yp new (Yg 8 len))) λm'=>cA H (.bytes need m') λb' H=>k (.slice b' 0 need 0 1) H)) cp) (no 0)
noncomputable def IP (s x:Arg) (id:Nat) (e:Env) (H:Heap) (k:K):R:=aI s e λs=>aI x e λx=>xa id H x λn new=>
 bz id s (λb o len cp sz=>Nat.rec (motive:=λ_=>R) (k s H) (λ_ _=>Jy id n new b o len cp sz H k) n)
  (Nat.rec (motive:=λ_=>R) (k s H) (λ_ _=>aE (YS n 1073741824) (cA H (.bytes n new) λb' H=>k (.slice b' 0 n 0 1) H) (no 0)) n)
noncomputable def aek (u8:Bool) (size:Nat) (s x:Arg) (id:Nat) (ph:dg) (e:Env) (H:Heap) (k:K):R:=aE u8 (IP s x id e H k) (IQ size s x id e H k)
noncomputable def Ol (id:Nat) (x:V) (k:Nat->R):R:=V.rec (motive_1:=λ_=>R) (motive_2:=λ_=>R) (λ_ _=>no 0) (λ_=>no 0) (λl _=>k l) (λ_ _=>no 0) (no 0) (λ_ _ l _ _=>k l) (k 0) (λ_=>no 0) (no 0) (λ_ _ _=>no 0) (λ_=>no 0) (no 0) (λ_ _ _=>no 0) (no 0) (λ_ _=>no 0) (λ_ _=>no 0) (0:R) (λ_ _ _ _=>(0:R)) x
noncomputable def Kh (a b:Nat) (k:Nat->R):R:=aE (YS a b) (k a) (k b)
noncomputable def kH (id n:Nat) (H:Heap) (k:K):R:=aE (Yv n 9223372036854775808) (k (.int 3 n) H) (no 0)
noncomputable def Nt (size:Nat) (d s:Arg) (id:Nat) (ph:dg) (e:Env) (H:Heap) (k:K):R:=aI d e λd=>aI s e λs=>bz id d (λb o dl _ _=>Ol id s λsl=>Kh sl dl λn=>de id size H s λ_ l=>takeN id l (Yg n size) λm=>Nat.rec (motive:=λ_=>R) (k (.int 3 0) H) (λ_ _=>ez id H b o m λH=>kH id n H k) n) (de id size H s λ_ _=>k (.int 3 0) H)
noncomputable def NA (x:Arg) (id:Nat) (ph:dg) (e:Env) (H:Heap) (k:K):R:=aI x e λx=>ec id x λn _=>kH id n H k
noncomputable def Ny (x:Arg) (id:Nat) (ph:dg) (e:Env) (H:Heap) (k:K):R:=aI x e λx=>bz id x (λ_ _ n _ _=>kH id n H k) (kH id 0 H k)
noncomputable def Ke (es:List (V × V)):Nat:=List.rec (motive:=λ_=>Nat) 0 (λ_ _ ih=>WH ih) es
noncomputable def Nz (x:Arg) (id:Nat) (ph:dg) (e:Env) (H:Heap) (k:K):R:=aI x e λx=>qg id x (λb=>dC H b λbl=>rh id bl λes=>av (Ke es) λn=>kH id n H k) (kH id 0 H k)
noncomputable def V7 (x:Arg) (id:Nat) (ph:dg) (e:Env) (H:Heap) (k:K):R:=aI x e λx=>bz id x (λ_ _ _ cp _=>Nat.rec (motive:=λ_=>R) (no 0) (λq _=>aE (Yv q 9223372036854775808) (k (.int 3 q) H) (no 0)) cp) (k (.int 3 0) H)
noncomputable def eMm (kd o m:Nat) (mx:Bool) (x y:Arg) (id:Nat) (ph:dg) (e:Env) (H:Heap) (k:K):R:=aI x e λx=>cC id x λk1 a=>aI y e λy=>cC id y λk2 b=>aE (YL k1 kd) (aE (YL k2 kd) (aE (YS (Yr (YX a o) m) (Yr (YX b o) m)) (aE mx (k (.int kd b) H) (k (.int kd a) H)) (aE mx (k (.int kd a) H) (k (.int kd b) H))) (no 0)) (no 0)
noncomputable def DV (o m:Nat) (mx:Bool) (a b:Nat) (k:Nat->R):R:=aE (YS (Yr (YX a o) m) (Yr (YX b o) m)) (aE mx (k b) (k a)) (aE mx (k a) (k b))
noncomputable def Sr (kd o m:Nat) (mx:Bool) (x y z:Arg) (id:Nat) (ph:dg) (e:Env) (H:Heap) (k:K):R:=aI x e λx=>cC id x λk1 a=>aI y e λy=>cC id y λk2 b=>aI z e λz=>cC id z λk3 c=>aE (YL k1 kd) (aE (YL k2 kd) (aE (YL k3 kd) (DV o m mx a b λr=>DV o m mx r c λq=>k (.int kd q) H) (no 0)) (no 0)) (no 0)
noncomputable def Gw (id:Nat) (c:Nat) (x y:V) (k:Bool->R):R:=Nat.rec (motive:=λ_=>R)
 (eF id x λa=>eF id y λb=>aE a (k b) (aE b (k false) (k true)))
 (λc' _=>Nat.rec (motive:=λ_=>R) (cC id x λk1 a=>cC id y λk2 b=>aE (YL k1 k2) (k (YL a b)) (no 0))
  (λ_ _=>ec id x λl1 a=>ec id y λl2 b=>aE (YL l1 l2) (k (YL a b)) (k false)) c') c
noncomputable def yU (l:List Nat):Nat:=List.rec (motive:=λ_=>Nat) 0 (λ_ _ ih=>WH ih) l
noncomputable def lq (id:Nat) (cls:List Nat):List V->List V->(Bool->R)->R:=List.rec (motive:=λ_=>List V->List V->(Bool->R)->R) (λ_ _ k=>k true)
 (λc _ ih l m k=>List.rec (motive:=λ_=>R) (no 0) (λa l' _=>List.rec (motive:=λ_=>R) (no 0) (λb m' _=>Gw id c a b λr=>aE r (ih l' m' k) (k false)) m) l) cls
noncomputable def FO (cls:List Nat) (neg:Bool) (x y:Arg) (id:Nat) (ph:dg) (e:Env) (H:Heap) (k:K):R:=aI x e λx=>jj id x λl=>aI y e λy=>jj id y λm=>aE (YL (eR l) (yU cls)) (aE (YL (eR m) (yU cls)) (lq id cls l m λb=>aE b (aE neg (k (.bool false) H) (k (.bool true) H)) (k (.bool neg) H)) (no 0)) (no 0)
noncomputable def aN (o:kP):Nat->dg->Env->Heap->K->R:=kP.rec (motive:=λ_=>Nat->dg->Env->Heap->K->R)
 ael aem aaK aaJ aaI Nq Nr AJ qB qC vd ve IS JO V8 CV NH Sp NB FQ wo wq W8 NF Xa wu Xd Xe Xc Nv Nw Nx V9 W6 W2 W0 NC NG ND Nu Ns FP aek Nt NA Ny Nz V7 eMm FO Sr Xf o
noncomputable def bX (d:Option Slot) (v:V) (e:Env) (k:Env->R):R:=Option.rec (motive:=λ_=>R) (k e) (λs=>HE s v e k) d
noncomputable def EY (x:V) (want:Bool) (t f:R):R:=V.rec (motive_1:=λ_=>R) (motive_2:=λ_=>R) (λ_ _=>f) (λb=>Bool.rec (motive:=λ_=>R) (aE want f t) (aE want t f) b) (λ_ _=>f) (λ_ _=>f) (f) (λ_ _ _ _ _=>f) (f) (λ_=>f) (f) (λ_ _ _=>f) (λ_=>f) (f) (λ_ _ _=>f) (f) (λ_ _=>f) (λ_ _=>f) (0:R) (λ_ _ _ _=>(0:R)) x
noncomputable def sg (g:Option (Slot × Bool)) (e:Env) (t f:R):R:=Option.rec (motive:=λ_=>R) t (λp=>YG4 (motive:=λ_=>R) (λs b=>gV s e λv=>EY v b t f) p) g
noncomputable def iQ (ph:dg) (l:List tO):Env->Heap->(Env->Heap->R)->R:=List.rec (motive:=λ_=>Env->Heap->(Env->Heap->R)->R) (λe H k=>k e H)
 (λo _ ih e H k=>tO.rec (motive:=λ_=>R) (λid d g _ op=>sg g e (aN op id ph e H λv H'=>bX d v e λe'=>ih e' H' k) (bX d (.cE []) e λe'=>ih e' H k)) o) l
noncomputable def bJ (ph:dg) (l:List tO):Env->Heap->(Env->Heap->R)->R:=List.rec (motive:=λ_=>Env->Heap->(Env->Heap->R)->R) (λe H k=>k e H)
 (λo _ ih e H k=>tO.rec (motive:=λ_=>R) (λid d g cls op=>sg g e
  (Nat.rec (motive:=λ_=>R)
   (aN op id ph e H λv H'=>bX d v e λe'=>ih e' H' k)
   (λ_ _=>Heap.rec (motive:=λ_=>R) (λn bC t=>aN op id ph e (.mk n n t) λv H'=>Heap.rec (motive:=λ_=>R) (λn' wlo' t'=>aE (YS n wlo') (bX d v e λe'=>ih e' (.mk n' bC t') k) (no 0)) H') H) cls)
  (bX d (.cE []) e λe'=>ih e' H k)) o) l
abbrev KE:=Env->Heap->R
noncomputable def mS (id:Nat) (x:V) (k:Option Nat->R):R:=V.rec (motive_1:=λ_=>R) (motive_2:=λ_=>R) (λ_ _=>no 0) (λ_=>no 0) (λ_ _=>no 0) (λb _=>k (some b)) (no 0) (λb _ _ _ _=>k (some b)) (k none) (λ_=>no 0) (no 0) (λ_ _ _=>no 0) (λ_=>no 0) (no 0) (λ_ _ _=>no 0) (no 0) (λ_ _=>no 0) (λ_ _=>no 0) (0:R) (λ_ _ _ _=>(0:R)) x
noncomputable def dw (id bf b:Nat) (l:List (Nat × Nat)) (k:R):R:=List.rec (motive:=λ_=>R) k (λp _ ih=>YG4 (motive:=λ_=>R) (λi' b'=>aE (Nat.testBit bf i') ih (aE (YL b b') (no 0) ih)) p) l
noncomputable def yw (id:Nat) (b:ee) (k:R):R:=ri id b (λl=>List.rec (motive:=λ_=>R) k (λv _ ih=>isKey id v ih) l) λ_ _=>no 0
noncomputable def bD (ph:dg) (n0:Nat) (l:List uG):Env->Heap->List (Nat × Nat)->List (Nat × Nat)->(Env->Heap->R)->R:=List.rec (motive:=λ_=>Env->Heap->List (Nat × Nat)->List (Nat × Nat)->(Env->Heap->R)->R) (λe H _ _ k=>k e H)
 (λo _ ih e H fl st k=>uG.rec (motive:=λ_=>R) (λid d g tag i bf ad op=>sg g e
  (Nat.rec (motive:=λ_=>R)
   (aN op id ph e H λv H'=>bX d v e λe'=>ih e' H' fl st k)
   (λt1 _=>Nat.rec (motive:=λ_=>R)
    (Heap.rec (motive:=λ_=>R) (λn bC t=>aN op id ph e (.mk n n t) λv H'=>Heap.rec (motive:=λ_=>R) (λn' wlo' t'=>aE (YS n wlo') (bX d v e λe'=>ih e' (.mk n' bC t') fl st k) (no 0)) H') H)
    (λt2 _=>aI ad e λa=>mS id a λob=>Nat.rec (motive:=λ_=>R)
     (Option.rec (motive:=λ_=>R) (no 0) (λb=>aE (Yv b n0) (dw id bf b st (aN op id ph e H λv H'=>bX d v e λe'=>ih e' H ((i,b):: fl) st k)) (no 0)) ob)
     (λt3 _=>Nat.rec (motive:=λ_=>R)
      (Option.rec (motive:=λ_=>R) (aN op id ph e H λv H'=>bX d v e λe'=>ih e' H' fl st k)
       (λb=>dw id bf b fl (aN op id ph e H λv H'=>bX d v e λe'=>ih e' H' fl ((i,b):: st) k)) ob)
      (λ_ _=>Heap.rec (motive:=λ_=>R) (λn bC t=>aN op id ph e (.mk n n t) λv H'=>Heap.rec (motive:=λ_=>R) (λn' wlo' t'=>aE (YS n wlo') (yw id (HT.get t' n) (bX d v e λe'=>ih e' (.mk n' bC t') ((i,n):: fl) st k)) (no 0)) H') H) t3) t2) t1) tag)
  (bX d (.cE []) e λe'=>ih e' H fl st k)) o) l
noncomputable def Pt (x y:V) (k:R):R:=cC 0 x λk1 a=>cC 0 y λk2 b=>aE (YL k1 k2) (aE (YL a b) k (no 0)) (no 0)
noncomputable def xx (l:List V):List V->R->R:=List.rec (motive:=λ_=>List V->R->R) (λm k=>List.rec (motive:=λ_=>R) k (λ_ _ _=>no 0) m) (λa _ ih m k=>List.rec (motive:=λ_=>R) (no 0) (λb m' _=>Pt a b (ih m' k)) m) l
noncomputable def Em (x y:ee) (k:R):R:=ri 0 x (λl=>ri 0 y (λm=>xx l m k) λ_ _=>no 0) λ_ _=>no 0
noncomputable def zB (b:Nat) (x:ee) (hs:List Heap) (k:R):R:=List.rec (motive:=λ_=>R) k (λG _ ih=>dC G b λy=>Em y x ih) hs
noncomputable def zC (H H':Heap) (bs:List Nat) (k:R):R:=List.rec (motive:=λ_=>R) k (λb _ ih=>dC H b λx=>dC H' b λy=>Em y x ih) bs
noncomputable def eZ (ph:dg) (n0:Nat) (l:List uG):Env->Heap->List Heap->List Nat->(Env->Heap->R)->R:=List.rec (motive:=λ_=>Env->Heap->List Heap->List Nat->(Env->Heap->R)->R) (λe H _ _ k=>k e H)
 (λo _ ih e H hs bs k=>uG.rec (motive:=λ_=>R) (λid d g tag _ _ ad op=>sg g e
  (aE (YL tag 5)
   (aI ad e λa=>mS id a λob=>Option.rec (motive:=λ_=>R) (no 0) (λb=>aE (Yv b n0) (dC H b λx=>zB b x hs (aN op id ph e H λv _=>bX d v e λe'=>ih e' H hs (b :: bs) k)) (no 0)) ob)
   (aE (YL tag 6)
    (aN op id ph e H λv H'=>zC H H' bs (bX d v e λe'=>ih e' H' (H :: hs) bs k))
    (aN op id ph e H λv H'=>bX d v e λe'=>ih e' H' hs bs k)))
  (bX d (.cE []) e λe'=>ih e' H hs bs k)) o) l
noncomputable def fM (c:aq):Nat->dg->Env->Heap->KE->(Nat->KE)->R:=aq.rec (motive:=λ_=>Nat->dg->Env->Heap->KE->(Nat->KE)->R)
 (λ_ _ _ _ _ _=>no 8)
 (λ_ _ e H kn _=>kn e H)
 (λops _ ph e H kn _=>iQ ph ops e H kn)
 (λops _ ph e H kn _=>bJ ph ops e H kn)
 (λops _ ph e H kn _=>Heap.rec (motive:=λ_=>R) (λn _ _=>bD ph n ops e H [] [] kn) H)
 (λops _ ph e H kn _=>Heap.rec (motive:=λ_=>R) (λn _ _=>eZ ph n ops e H [] [] kn) H)
 (λ_ _ iha ihb fuel ph e H kn kx=>iha fuel ph e H (λe H=>ihb fuel ph e H kn kx) kx)
 (λc _ _ iha ihb fuel ph e H kn kx=>aI c e λv=>eF 0 v λb=>aE b (iha fuel ph e H kn kx) (ihb fuel ph e H kn kx))
 (λid _ iha fuel ph e H kn kx=>iha fuel ph e H kn λn e H=>aE (YL n (WH id)) (kn e H) (kx n e H))
 (λ_ iha fuel ph e H _ kx=>Nat.rec (motive:=λ_=>Env->Heap->R) (λ_ _=>no 3) (λ_ ih e H=>iha fuel ph e H ih kx) fuel e H)
 (λid _ _ e H _ kx=>kx (WH id) e H)
 (λ_ _ e H _ kx=>kx 0 e H)
 (λg ps assign body _ ph e H kn kx=>aI g e λg=>xK 0 g λf caps=>Nat.rec (motive:=λ_=>R) (cA H .mark λ_ H=>cA H (.loop 0 0 e ps assign body) λb H=>ph (.func f caps) [.su b] H λ_ H=>
  dC H b λbl=>eK bl λst j e' ps' as' bo'=>Nat.rec (motive:=λ_=>R) (cV 0 H b (.loop 3 j e' ps' as' bo') λH=>Nat.rec (motive:=λ_=>R) (kn e H) (λm _=>kx m e H) j) (λs _=>Nat.rec (motive:=λ_=>R) (no 10) (λ_ _=>cV 0 H b (.loop 3 j e' ps' as' bo') λH=>Nat.rec (motive:=λ_=>R) (kn e H) (λm _=>kx m e H) j) s) st) (λ_ _=>no 14) (Yr f 2))
 (λg ps assign body _ ph e H kn kx=>aI g e λg=>xK 0 g λf caps=>Nat.rec (motive:=λ_=>R) (cA H (.loop 0 0 e ps assign body) λb H=>ph (.func f caps) [.su b] H λ_ H=>
  dC H b λbl=>eK bl λst j e' ps' as' bo'=>Nat.rec (motive:=λ_=>R) (cV 0 H b (.loop 3 j e' ps' as' bo') λH=>Nat.rec (motive:=λ_=>R) (kn e H) (λm _=>kx m e H) j) (λs _=>Nat.rec (motive:=λ_=>R) (no 10) (λ_ _=>cV 0 H b (.loop 3 j e' ps' as' bo') λH=>Nat.rec (motive:=λ_=>R) (kn e H) (λm _=>kx m e H) j) s) st) (λ_ _=>no 14) (Yr f 2))
 c
inductive cW where
 | nat (g:List V->Heap->K->R)
 | code (ps:List Slot) (res:List RV) (c:aq)
noncomputable def aaP (r:RV) (e:Env) (H:Heap) (k:V->R):R:=RV.rec (motive:=λ_=>R) (λs=>gV s e k) (λs=>gV s e λv=>dQ 0 v λb o=>mY 0 H b o k) (λs n=>gV s e λv=>dQ 0 v λb o=>dU 0 H b o n λl=>k (.agg l)) r
noncomputable def wH (l:List RV) (e:Env) (H:Heap):(List V->R)->R:=List.rec (motive:=λ_=>(List V->R)->R) (λk=>k []) (λr _ ih k=>aaP r e H λv=>ih λq=>k (v :: q)) l
noncomputable def Ht (l:List V) (k:V->R):R:=List.rec (motive:=λ_=>R) (k (.cE [])) (λv r _=>List.rec (motive:=λ_=>R) (k v) (λ_ _ _=>k (.cE l)) r) l
noncomputable def fP (ps:List Slot):List V->Env->(Env->R)->R:=List.rec (motive:=λ_=>List V->Env->(Env->R)->R) (λl e k=>List.rec (motive:=λ_=>R) (k e) (λ_ _ _=>no 4) l)
 (λs _ ih l e k=>List.rec (motive:=λ_=>R) (no 5) (λv r _=>HE s v e λe'=>ih r e' k) l) ps
noncomputable def u0:V:=.cE []
noncomputable def u1:N8 V:=.mk u0 u0 u0 u0 u0 u0 u0 u0
noncomputable def u2:N8 (N8 V):=.mk u1 u1 u1 u1 u1 u1 u1 u1
noncomputable def CX:Env:=.mk u2 u2 u2 u2 u2 u2 u2 u2
noncomputable def Sx (f:cW) (fuel:Nat) (ph:dg) (args:List V) (H:Heap) (k:K):R:=cW.rec (motive:=λ_=>R)
 (λg=>g args H k)
 (λps res c=>fP ps args CX λe=>fM c fuel ph e H (λe H=>wH res e H λl=>Ht l λv=>k v H) λn e H=>Nat.rec (motive:=λ_=>R) (wH res e H λl=>Ht l λv=>k v H) (λ_ _=>no 6) n) f
noncomputable def UW (cp:RC->aq) (fuel:Nat) (ph:dg) (b:Nat) (args:List V) (H:Heap) (k:K):R:=
 dC H b λbl=>eK bl λst j e ps asL bo=>Nat.rec (motive:=λ_=>R)
  (fP ps args e λe1=>fM (cp asL) fuel ph e1 H (λe2 H=>dC H b λbl=>eK bl λst1 j1 e1 ps1 as1 bo1=>Nat.rec (motive:=λ_=>R) (cV 0 H b (.loop 1 j1 e1 ps1 as1 bo1) λH=>fM (cp bo) fuel ph e2 H
   (λ_ H=>dC H b λbl=>eK bl λ_ _ e' ps' as' bo'=>cV 0 H b (.loop 0 0 e' ps' as' bo') λH=>k (.bool true) H)
   λn _ H=>dC H b λbl=>eK bl λ_ _ e' ps' as' bo'=>cV 0 H b (.loop 2 (WH n) e' ps' as' bo') λH=>k (.bool false) H) (λ_ _=>no 13) st1) (λ_ _ _=>no 11))
  (λ_ _=>no 12) st
noncomputable def F4 (t:Nat->Option cW) (fuel:Nat) (ph:dg) (f:Nat) (args:List V) (H:Heap) (k:K):R:=av f λf=>Option.rec (motive:=λ_=>R) (no (100+f)) (λfn=>Sx fn fuel ph args H k) (t f)
noncomputable def aQ (cp:RC->aq) (t:Nat->Option cW) (fuel:Nat) (depth:Nat):dg:=Nat.rec (motive:=λ_=>dg) (λ_ _ _ _=>no 7) (λ_ ih x args H k=>
 V.rec (motive_1:=λ_=>R) (motive_2:=λ_=>R) (λ_ _=>no 0) (λ_=>no 0) (λ_ _=>no 0) (λ_ _=>no 0) (no 0) (λ_ _ _ _ _=>no 0) (no 0) (λ_=>no 0) (no 0) (λf caps _=>Nat.rec (motive:=λ_=>R) (iZ args caps λargs=>F4 t fuel ih (WX f 2) args H k) (λ_ _=>iZ caps args λargs=>F4 t fuel ih (WX f 2) args H k) (Yr f 2)) (λb=>UW cp fuel ih b args H k) (no 0) (λ_ _ _=>no 0) (no 0) (λ_ _=>no 0) (λ_ _=>no 0) (0:R) (λ_ _ _ _=>(0:R)) x) depth
noncomputable def H0:Heap:=.mk 0 0 .e
end Go.Ev
end
section
namespace Go.Ev
section
variable (P:Program)
def je (fid:Nat) (fn:Func):Option cW:=match fn.body with
 | some c=>if fn.ntmps<=512 && fn.params.size+fn.nfree<=fn.ntmps then
  match kS P fn.ntmps fn.results.toList with
  | some r=>some (.code ((WT (fn.params.size+fn.nfree)).map aX) r (hU P fn.ntmps fid false c))
  | none=>none
  else none
 | none=>none
end
end Go.Ev
end
section
namespace Go.Ev
noncomputable def IZ (sl sn:Nat) (l:List V):(Nat->Nat->R)->R:=List.rec (motive:=λ_=>(Nat->Nat->R)->R) (λk=>k 0 0)
 (λv r ih k=>ec 0 v λl n=>List.rec (motive:=λ_=>R) (k l n) (λ_ _ _=>ih λrl rn=>
  av (YX l (YX sl rl)) λtl=>av (YX n (Yp (YX sn (Yp rn (Yg 8 sl))) (Yg 8 l))) λtn=>k tl tn) r) l
noncomputable def pv (c b:Nat) (k:Nat->R):R:=av (YM1 (Yx c 4) (Qu (Yx 9937593612760466100516450665319420528403982636753068485404800763335476026940182181175496972418787619281442302519629725716261212251300561153615832085954560 (Yg 32 (Qu (YM1 c b) 15))) 4294967295)) k
noncomputable def uZ (l:Nat):Nat->Nat->(Nat->R)->R:=Nat.rec (motive:=λ_=>Nat->Nat->(Nat->R)->R) (λ_ c k=>k c) (λ_ ih n c k=>av (Yr n 256) λb=>av (WX n 256) λn'=>pv c b λc=>pv c (Yx b 4) λc=>ih n' c k) l
end Go.Ev
end
section
namespace Go.Ev
def q8 {α:Type} (i:I8) (t:N8 α) (x:α):N8 α:=match t with
 | .mk a0 a1 a2 a3 a4 a5 a6 a7=>match i with
  | .i0=>.mk x a1 a2 a3 a4 a5 a6 a7 | .i1=>.mk a0 x a2 a3 a4 a5 a6 a7 | .i2=>.mk a0 a1 x a3 a4 a5 a6 a7 | .i3=>.mk a0 a1 a2 x a4 a5 a6 a7
  | .i4=>.mk a0 a1 a2 a3 x a5 a6 a7 | .i5=>.mk a0 a1 a2 a3 a4 x a6 a7 | .i6=>.mk a0 a1 a2 a3 a4 a5 x a7 | .i7=>.mk a0 a1 a2 a3 a4 a5 a6 x
def kJ (s:Slot) (v:V) (e:Env):Env:=match s with
 | .mk a b c=>q8 a e (q8 b (p8 a e) (q8 c (p8 b (p8 a e)) v))
theorem N5 {α} (i) (t) (k:α->R):g8 i t k=k (p8 i t):=by cases i<;>rfl
theorem PV {α} (i) (t) (f) (k:N8 α->R):u8 i t f k=f (p8 i t) λx=>k (q8 i t x):=by cases i<;>rfl
theorem Je {α} (i j) (t) (x:α):p8 i (q8 j t x)=if i=j then x else p8 i t:=by cases i<;>cases j<;>rfl
theorem dX (s) (e) (k):gV s e k=k (aa s e):=by
 cases s with
 | mk a b c=>show g8 a e (λt=>g8 b t λu=>g8 c u k)=_;rw [N5,N5,N5];rfl
theorem rX (s) (v) (e) (k):HE s v e k=k (kJ s v e):=by
 cases s with
 | mk a b c=>show u8 a e (λt k1=>u8 b t (λu k2=>u8 c u (λ_ k3=>k3 v) k2) k1) k=_;rw [PV,PV,PV];rfl
theorem eO (s s') (v) (e):aa s (kJ s' v e)=if s=s' then v else aa s e:=by
 cases s with
 | mk a b c=>
  cases s' with
  | mk a' b' c'=>
   simp only [aa,kJ,Je]
   by_cases h1:a=a'
   .subst h1
    by_cases h2:b=b'
    .subst h2
     by_cases h3:c=c'
     .simp [Je]
     .simp [h3,Je]
    .simp [h2,Je]
   simp_all
theorem FL {m n} (hm:m<8) (hn:n<8) (h:d8 m=d8 n):m=n:=by
 rcases (by omega:m=0\/m=1\/m=2\/m=3\/m=4\/m=5\/m=6\/m=7) with rfl|rfl|rfl|rfl|rfl|rfl|rfl|rfl<;>
 rcases (by omega:n=0\/n=1\/n=2\/n=3\/n=4\/n=5\/n=6\/n=7) with rfl|rfl|rfl|rfl|rfl|rfl|rfl|rfl<;>first|rfl|cases h
theorem ft {m n} (hm:m<512) (hn:n<512) (h:aX m=aX n):m=n:=by
 injection h with h1 h2 h3
 have h1:=FL (by omega) (by omega) h1
 have h2:=FL (by omega) (by omega) h2
 have h3:=FL (by omega) (by omega) h3
 omega
theorem TR.put {mu:M} {nt:Nat} {e:Env} {tmps:Array Value} (h:TR mu nt e tmps) {d:Nat} {v:V} {c:Value} (hd:d<nt) (hv:VR mu v c):
 TR mu nt (kJ (aX d) v e) (tmps.setIfInBounds d c):=by
 refine ⟨by simpa using h.size,h.le,λt u ht=>?_,λt h1 h2=>by
  have hl:=h.le
  rw [eO,if_neg λe=>by have:=ft (by omega) (by omega) e;omega]
  exact h.rest t h1 h2⟩
 rw [eO]
 have hs:=h.size
 have hl:=h.le
 by_cases htd:t=d
 .subst htd
  rw [if_pos rfl]
  rw [Array.getElem?_setIfInBounds_self_of_lt (by omega)]at ht
  cases ht
  exact hv
 .rw [Array.getElem?_setIfInBounds_ne (Ne.symm htd)]at ht
  have hlt:t<tmps.size:=by
   rcases Yf t tmps.size with h|h
   .exact h
   .simp [Array.getElem?_eq_none h]at ht
  rw [if_neg λe=>htd (ft (by omega) (by omega) e)]
  exact h.get t u ht
theorem ay (n) (k):av n k=k n:=by cases n<;>rfl
theorem aaS (t f):aE true t f=t:=rfl
theorem Zr (t f):aE false t f=f:=rfl
theorem aL {c} {t} {n} (h:aE c t (no n)=1):c=true/\t=1:=by
 cases c
 .exact (au h).elim
 .exact ⟨rfl,h⟩
theorem bQ {c} {t f} (h:aE c t f=1):(c=true/\t=1)\/(c=false/\f=1):=by
 cases c
 .exact YE ⟨rfl,h⟩
 .exact YG ⟨rfl,h⟩
theorem cm {a b:Nat} (h:YL a b=true):a=b:=Nat.eq_of_beq_eq_true h
theorem cq {a b:Nat} (h:YS a b=true):a<=b:=Qj h
theorem er {a b} (h:Yv a b=true):a<b:=Qj h
theorem dE {id} {x} {k} (h:cC id x k=1):(∃ kd n,x = .int kd n/\k kd n=1):=by
 cases x<;>first|exact (au h).elim|exact ⟨_,_,rfl,h⟩
theorem mb {id} {x} {k} (h:eF id x k=1):(∃ b,x = .bool b/\k b=1):=by
 cases x<;>first|exact (au h).elim|exact ⟨_,rfl,h⟩
theorem ek {id} {x} {k} (h:ec id x k=1):(∃ l n,x = .str l n/\k l n=1):=by
 cases x<;>first|exact (au h).elim|exact ⟨_,_,rfl,h⟩
theorem fF {id} {x} {k} (h:dQ id x k=1):(∃ b o,x = .ptr b o/\k b o=1):=by
 cases x<;>first|exact (au h).elim|exact ⟨_,_,rfl,h⟩
theorem Lf {id} {x} {k} (h:lF id x k=1):(∃ b o l c s,x = .slice b o l c s/\k b o l c s=1):=by
 cases x<;>first|exact (au h).elim|exact ⟨_,_,_,_,_,rfl,h⟩
theorem eA {id} {x} {k} {z} (h:bz id x k z=1):(∃ b o l c s,x = .slice b o l c s/\k b o l c s=1)\/(x = .aw/\z=1):=by
 cases x<;>first|exact (au h).elim|exact YG ⟨_,_,_,_,_,rfl,h⟩|exact YE ⟨rfl,h⟩
theorem Js {id} {x} {k} (h:EL id x k=1):(∃ b,x = .map b/\k b=1):=by
 cases x<;>first|exact (au h).elim|exact ⟨_,rfl,h⟩
theorem EM {id} {x} {k} {z} (h:qg id x k z=1):(∃ b,x = .map b/\k b=1)\/(x = .xc/\z=1):=by
 cases x<;>first|exact (au h).elim|exact YG ⟨_,rfl,h⟩|exact YE ⟨rfl,h⟩
theorem EK {id} {x} {k} (h:xK id x k=1):(∃ f l,x = .func f l/\k f l=1):=by
 cases x<;>first|exact (au h).elim|exact ⟨_,_,rfl,h⟩
theorem pN {id} {x} {k} (h:jj id x k=1):(∃ l,x = .agg l/\k l=1):=by
 cases x<;>first|exact (au h).elim|exact ⟨_,rfl,h⟩
theorem Za {id t} {x} {k} (h:vIf id t x k=1):∃ v,x = .iface t v/\k v=1:=by
 cases x<;>first|exact (au h).elim|skip
 have h':=h
 rcases bQ h' with ⟨h1,h2⟩|⟨_,h2⟩
 .simp_all
 .exact (au h2).elim
theorem TW {id} {x} {k} (h:yk id x k=1):(∃ l,x = .cE l/\k l=1):=by
 cases x<;>first|exact (au h).elim|exact ⟨_,rfl,h⟩
theorem tu {id}:∀ {l} {i} {k},nth id l i k=1->∃ v,l[i]? = some v/\k v=1
 | [],_,_,h=>(au h).elim
 | v :: l,0,_,h=>⟨v,rfl,h⟩
 | _ :: l,i+1,k,h=>by
  have h':nth id l i k=1:=h
  obtain ⟨v,h1,h2⟩:=tu h'
  simp_all
theorem kC {id}:∀ {l} {n} {k},takeN id l n k=1->n<=l.length/\k (l.take n)=1
 | [],0,_,h=>⟨YA _,h⟩
 | [],_+1,_,h=>(au h).elim
 | v :: l,0,_,h=>⟨Yk _,h⟩
 | v :: l,n+1,k,h=>by
  have h':takeN id l n (λr=>k (v :: r))=1:=h
  obtain ⟨h1,h2⟩:=kC h'
  simp_all
theorem lR {id}:∀ {l} {n} {k},eY id l n k=1->n<=l.length/\k (l.drop n)=1
 | [],0,_,h=>⟨YA _,h⟩
 | [],_+1,_,h=>(au h).elim
 | v :: l,0,_,h=>⟨Yk _,h⟩
 | v :: l,n+1,k,h=>by
  have h':eY id l n k=1:=h
  obtain ⟨h1,h2⟩:=lR h'
  simp_all
theorem eG:∀ (l m) (k),iZ l m k=k (l ++ m)
 | [],_,_=>rfl
 | v :: l,m,k=>by
  show iZ l m (λr=>k (v :: r))=_
  rw [eG];rfl
theorem Bl {id}:∀ {m l} {k},over id m l k=1->m.length<=l.length/\k (m ++ l.drop m.length)=1
 | [],l,k,h=>⟨Yk _,by have h':k l=1:=h;simp_all⟩
 | x :: m,[],_,h=>(au h).elim
 | x :: m,y :: l,k,h=>by
  have h':over id m l (λq=>k (x :: q))=1:=h
  obtain ⟨h1,h2⟩:=Bl h'
  simp_all
theorem xA {id} {m}:∀ {l} {i} {k},setAt id m l i k=1->i+m.length<=l.length/\k (l.take i ++ (m ++ l.drop (i+m.length)))=1
 | [],0,k,h=>by
  have h':over id m [] k=1:=h
  obtain ⟨h1,h2⟩:=Bl h'
  simp_all
 | [],_+1,_,h=>(au h).elim
 | v :: l,0,k,h=>by
  have h':over id m (v :: l) k=1:=h
  obtain ⟨h1,h2⟩:=Bl h'
  simp_all
 | v :: l,i+1,k,h=>by
  have h':setAt id m l i (λr=>k (v :: r))=1:=h
  obtain ⟨h1,h2⟩:=xA h'
  grind
theorem iH:∀ l:List V,eR l=l.length
 | []=>rfl
 | _ :: l=>by show WH (eR l)=_;rw [iH l];rfl
theorem Bx (m):∀ (n) (k),Ty m n k=k (gO n m)
 | 0,_=>rfl
 | n+1,k=>by
  show Ty m n (λr=>iZ m r k)=_
  rw [Bx m n,eG];rfl
theorem wK {id} {x} {k} (h:dZ id x k=1):x.one=true/\k=1:=by
 cases x<;>first|exact (au h).elim|exact ⟨rfl,h⟩
theorem ef {id}:∀ {l} {k},bq id l k=1->(∀ v ∈ l,v.one=true)/\k=1
 | [],_,h=>⟨λ_ hv=>absurd hv (by simp),h⟩
 | v :: l,k,h=>by
  have h':dZ id v (bq id l k)=1:=h
  obtain ⟨h1,h2⟩:=wK h'
  obtain ⟨h3,h4⟩:=ef h2
  simp_all
theorem Lb {id} {x} {k} (h:dO id x k=1):(∃ l,x = .agg l/\k l=1)\/(x.one=true/\k [x]=1):=by
 cases x<;>first|exact (au h).elim|exact YG ⟨_,rfl,h⟩|exact YE ⟨rfl,h⟩
theorem aM:∀ (l n),(aC l n).length=l
 | 0,_=>rfl
 | l+1,n=>by simp [aC,aM l]
theorem qM:∀ (l n i),i<l->(aC l n)[i]? = some (UInt8.ofNat (n/256 ^ i%256))
 | 0,_,_,h=>absurd h (by omega)
 | l+1,n,0,_=>by simp [aC]
 | l+1,n,i+1,h=>by
  simp only [aC,Qc]
  rw [qM l (n/256) i (by omega),YH2,QM,Wl]
theorem toNat_byte (x):(UInt8.ofNat (x%256)).toNat=x%256:=by simp
theorem mQ:∀ (l n m),n%256 ^ l=m%256 ^ l->aC l n=aC l m
 | 0,_,_,_=>rfl
 | l+1,n,m,h=>by
  rw [QM]at h
  have h1:=by
   have:=congrArg (· % 256) h
   simpa [Nat.mod_mul_left_mod] using this
  have h2:n/256%256 ^ l=m/256%256 ^ l:=by
   rw [Wl]at h
   rw [<- YE1,<- YE1,h]
  simp only [aC,h1,mQ l _ _ h2]
theorem eP:∀ (a b n m),n<256 ^ a->aC (a+b) (n+256 ^ a*m)=aC a n ++ aC b m
 | 0,b,n,m,h=>by
  have:n=0:=by omega
  subst this
  simp [aC]
 | a+1,b,n,m,h=>by
  rw [QM]at h ⊢
  have e1:(n+256 ^ a*256*m)%256=n%256:=by grind
  have e2:(n+256 ^ a*256*m)/256=n/256+256 ^ a*m:=by grind
  rw [show a+1+b=(a+b)+1 by omega]
  simp only [aC,e1,e2,YP]
  rw [eP a b (n/256) m (YD1 (by omega))]
theorem iV:∀ (i l n),i<=l->(aC l n).drop i=aC (l-i) (n/256 ^ i)
 | 0,l,n,_=>by simp
 | i+1,0,n,h=>absurd h (by omega)
 | i+1,l+1,n,h=>by
  simp only [aC,List.drop_succ_cons]
  rw [iV i l (n/256) (by omega),YH2,QM,Wl 256,show l+1-(i+1)=l-i by omega]
theorem iW:∀ (i l n),i<=l->(aC l n).take i=aC i n
 | 0,l,n,_=>by rfl
 | i+1,0,n,h=>absurd h (by omega)
 | i+1,l+1,n,h=>by simp [aC,iW i l (n / 256) (by omega)]
theorem Er:∀ l:Nat,aC l 0=YZ l 0
 | 0=>rfl
 | l+1=>by simp [aC,Er l,List.replicate_succ]
theorem iw:∀ l:List UInt8,enc l<256 ^ l.length
 | []=>by simp [enc]
 | x :: l=>by
  have:=iw l
  have hx:=x.toNat_lt
  simp only [enc,YF,QM]
  omega
theorem fq:∀ l:List UInt8,aC l.length (enc l)=l
 | []=>rfl
 | x :: l=>by
  have hx:=x.toNat_lt
  simp only [enc,YF,aC]
  rw [show (x.toNat+256*enc l)%256=x.toNat by omega,show (x.toNat+256*enc l)/256=enc l by omega,fq l]
  simp
theorem mC:∀ (l n),n<256 ^ l->enc (aC l n)=n
 | 0,n,h=>by simp at h;simp [aC,enc,h]
 | l+1,n,h=>by
  simp only [aC,enc,toNat_byte]
  rw [mC l (n/256) (YD1 (by omega))]
  omega
theorem qN {l m n} (hm:m<256 ^ l) (hn:n<256 ^ l) (h:aC l m=aC l n):m=n:=by
 rw [<- mC l m hm,h,mC l n hn]
def eB (x:UInt8):V:=.int 4 x.toNat
theorem oJ {id}:∀ {l} {k},ib id l k=1->∃ n,k l.length n=1/\(∀ v ∈ l,∃ x,v = .int 4 x)/\((∀ v ∈ l,∀ x,v = .int 4 x->x<256)->l=(aC l.length n).map eB/\n<256 ^ l.length)
 | [],k,h=>⟨0,h,λ_ hv=>absurd hv (by simp),λ_=>⟨rfl,by simp⟩⟩
 | v :: l,k,h=>by
  have h':cC id v (λkd x=>aE (YL kd 4) (ib id l λlen n=>av (YX x (Yg 256 n)) λn'=>av (WH len) λlen'=>k len' n') (no _))=1:=h
  obtain ⟨kd,x,rfl,h1⟩:=dE h'
  obtain ⟨h2,h3⟩:=aL h1
  have:=cm h2
  subst this
  obtain ⟨n,h4,h40,h5⟩:=oJ h3
  rw [ay,ay]at h4
  refine ⟨_,h4,λv hv=>(YT.1 hv).elim (λe=>⟨_,e⟩) (h40 v),λha=>?_⟩
  obtain ⟨h6,h7⟩:=h5 λv hv=>ha v (YH _ hv)
  have hlt:=ha _ (YI ..) _ rfl
  simp only [YF,aC,QM]
  have e1:(x.add (Yg 256 n))%256=x:=by grind
  have e2:(x.add (Yg 256 n))/256=n:=by grind
  rw [e1,e2]
  refine ⟨?_,by omega⟩
  simp only [Yd,eB]
  rw [<- h6]
  simp [Yz hlt]
theorem iG:∀ (len n) (k),pM len n k=k ((aC len n).map eB)
 | 0,_,_=>rfl
 | len+1,n,k=>by
  show av (Yr n 256) (λx=>av (WX n 256) λn'=>pM len n' λr=>k (.int 4 x :: r))=_
  rw [ay,ay,iG]
  simp only [aC,Yd,eB,toNat_byte]
  rfl
end Go.Ev
end
section
namespace Go.Ev
open Go.RowKit
theorem aV (H) (b) (k):dC H b k=k (H.get b):=by rfl
theorem jN {id} {bl} {kc} {kb} (h:ri id bl kc kb=1):(∃ l,bl = .cells l/\kc l=1)\/∃ len n,bl = .bytes len n/\kb len n=1:=by
 cases bl<;>first|exact (au h).elim|exact YG ⟨_,rfl,h⟩|exact YE ⟨_,_,rfl,h⟩
theorem uW {id} {bl} {k} (h:rh id bl k=1):∃ es,bl = .map es/\k es=1:=by
 cases bl<;>first|exact (au h).elim|exact ⟨_,rfl,h⟩
theorem lK {bl} {k} (h:eK bl k=1):∃ st j e ps asL bo,bl = .loop st j e ps asL bo/\k st j e ps asL bo=1:=by
 cases bl<;>first|exact (au h).elim|exact ⟨_,_,_,_,_,_,rfl,h⟩
structure Lw (H:Heap) (b:Nat) (x:ee) (H':Heap):Prop where
 lt:b<H.n
 n:H'.n=H.n
 bC:H'.bC<=H.bC
 wb:H'.bC<=b
 get:H'.get b=x
 tC:∀ j,j≠b->H'.get j=H.get j
theorem fS {id} {H} {b} {x} {k} (h:cV id H b x k=1):∃ H',k H'=1/\Lw H b x H':=by
 cases H with
 | mk n bC t=>
  have h':=h
  obtain ⟨h1,h2⟩:=aL h'
  obtain ⟨t',h3,h4,h5⟩:=HT.HF _ _ _ h2
  rcases bQ h3 with ⟨h6,h7⟩|⟨h6,h7⟩
  .exact ⟨_,h7,er h1,rfl,YA _,cq h6,h4,h5⟩
  .have:b<bC:=by
    rcases Yf b bC with h|h
    .omega
    .rw [WQ h]at h6;cases h6
   exact ⟨_,h7,er h1,rfl,QN this,YA _,h4,h5⟩
structure nI (H:Heap) (x:ee) (H':Heap):Prop where
 n:H'.n=H.n+1
 bC:H'.bC=H.bC
 get:H'.get H.n=x
 tC:∀ j,j≠H.n->H'.get j=H.get j
theorem dr {H} {x} {k} (h:cA H x k=1):∃ H',k H.n H'=1/\nI H x H':=by
 cases H with
 | mk n bC t=>
  have h':=h
  obtain ⟨t',h3,h4,h5⟩:=HT.HF _ _ _ h'
  exact ⟨_,h3,rfl,rfl,h4,h5⟩
def rowOf:ee->Option (List V)
 | .cells l=>some l
 | .bytes len n=>some ((aC len n).map eB)
 | _=>none
theorem Zq (x):(eB x).one=true:=rfl
theorem toI_u8 (x) (h:x<256):toI .u8 x=x:=by
 show IntKind.u8.wrap (x:Int)=x
 simp [IntKind.wrap,IntKind.bits,IntKind.signed]
 omega
theorem uV (mu) (x):VR mu (eB x) (.int .u8 x.toNat):=by
 have h:=x.toNat_lt
 refine ⟨?_,?_,by omega⟩
 .show Value.int .u8 _=Value.int .u8 (toI .u8 _)
  rw [toI_u8 _ (by omega)]
 .show _<2 ^ IntKind.u8.bits
  simp [IntKind.bits];omega
theorem gi {bl} {row} (h:rowOf bl=some row):bl.alive/\bl ≠ .mark:=by
 cases bl<;>simp [rowOf]at h<;>exact ⟨trivial,by simp⟩
theorem TB {P} {mu} {bl} {row} {o} (h:rowOf bl=some row) (hb:BR P mu bl o):∃ c e fr,o = .cells c e fr/\ie mu row c fr:=by
 cases bl with
 | cells l=>simp only [rowOf,Option.some.injEq]at h;obtain ⟨c,e,fr,h1,h2,_⟩:=hb;grind
 | bytes len n=>
  simp only [rowOf,Option.some.injEq]at h
  subst h
  obtain ⟨c,e,fr,h1,⟨_,h2⟩,h3⟩:=hb
  refine ⟨c,e,fr,h1,λi v hi=>?_,h3⟩
  simp only [Yh,YY]at hi
  obtain ⟨x,hx,rfl⟩:=hi
  exact ⟨rfl,_,h2 i x hx,uV mu x⟩
 | _=>simp [rowOf]at h
section
variable {P:Program} {base:Nat} {w0 w w':World} {rho:Nat->Option Nat} {H H':Heap}
theorem PR.row (h:PR P base w0 rho H w) {b c:Nat} {row:List V} (hr:rho b=some c) (bM:rowOf (H.get b)=some row):
 ∃ cs e fr,w.heap[c]? = some (.cells cs e fr)/\ie (mu rho H w) row cs fr:=by
 obtain ⟨o,h1,h2⟩:=h.cQ b c hr
 obtain ⟨cs,e,fr,rfl,h3⟩:=TB bM h2
 exact ⟨cs,e,fr,h1,h3⟩
theorem PR.SU (h:PR P base w0 rho H w) {b c:Nat} {l:List V} (hr:rho b=some c) (hb:H.get b = .cells l) {cs:Array Value} {e:TypeId} {fr:Nat × Nat} (hw:w.heap[c]? = some (.cells cs e fr)):¬ (fr.1<=cs.size/\cs.size<fr.2):=by
 obtain ⟨o,h1,h2⟩:=h.cQ b c hr
 rw [hb]at h2
 obtain ⟨c',e',fr',rfl,_,h3⟩:=h2
 rw [hw]at h1
 cases h1
 exact h3
theorem PR.ji (h:PR P base w0 rho H w) {b c:Nat} {row:List V} (hm:(mu rho H w).b b c) (bM:rowOf (H.get b)=some row):rho b=some c:=hm.2 (gi bM).1
theorem tz {v} {c} {m} (h:VR m v c) (ho:v.one=true):c.oneCell'=true:=by
 obtain ⟨h1,h2⟩:=h.one ho
 cases c<;>first|rfl|rfl|simp_all
theorem PR.cell (h:PR P base w0 rho H w) {b c i:Nat} {row:List V} {v:V} (hr:rho b=some c) (bM:rowOf (H.get b)=some row) (hi:row[i]? = some v):
 ∃ cv,w.cell? ⟨c,i,none⟩=some cv/\VR (mu rho H w) v cv/\v.one=true:=by
 obtain ⟨cs,e,fr,h1,h2,h3⟩:=h.row hr bM
 obtain ⟨h4,cv,h5,h6⟩:=h2 i v hi
 exact ⟨cv,by simp [World.cell?,h1,h5],h6,h4⟩
theorem ie.le {mu:M} {row:List V} {cs:Array Value} {fr:Nat × Nat} (h:ie mu row cs fr):row.length<=cs.size:=by
 rcases Yf cs.size row.length with hlt|hge
 .obtain ⟨_,cv,h2,_⟩:=h.1 cs.size _ (YB hlt)
  simp at h2
 .exact hge
theorem ie.vrs {mu:M} {row:List V} {cs:Array Value} {fr:Nat × Nat} (h:ie mu row cs fr) {o n:Nat} (hn:o+n<=row.length):cj mu ((row.drop o).take n) ((cs.toList.drop o).take n):=by
 have hle:=h.le
 refine cj.oI (by simp;omega) λi v c h1 h2=>?_
 rw [WD]at h1 h2
 split at h1
 .rename_i hi
  rw [if_pos hi]at h2
  rw [WE]at h1 h2
  obtain ⟨_,cv,h3,h4⟩:=h.1 _ _ h1
  rw [Yo]at h2
  rw [h3]at h2
  cases h2
  exact h4
 .cases h1
theorem PR.cells (h:PR P base w0 rho H w) {b c o n:Nat} {row:List V} (hr:rho b=some c) (bM:rowOf (H.get b)=some row) (hn:o+n<=row.length):
 ∃ cs:List Value,(loadCells ⟨c,o,none⟩ n).run P w = .ok cs.toArray w/\cj (mu rho H w) ((row.drop o).take n) cs/\cs.length=n:=by
 obtain ⟨cs,e,fr,h1,h2⟩:=h.row hr bM
 have hle:=h2.le
 refine ⟨(cs.toList.drop o).take n,?_,h2.vrs hn,by simp;omega⟩
 have hl:((cs.toList.drop o).take n).length=n:=by simp;omega
 have:=run_loadCells_list (P:=P) w ⟨c,o,none⟩ ((cs.toList.drop o).take n) (λj v hv=>by
  rw [Addr.add_lit]
  rw [WD]at hv
  split at hv
  .rw [WE,Yo]at hv
   simp [World.cell?,h1,hv]
  .cases hv)
 rwa [hl]at this
theorem gS {g o} {t} {fr}:∀ (vs) (i) (cur) (w),w.heap[g]? = some (.cells cur t fr)->o+i+vs.length<=cur.size->(∀ v ∈ vs,v.oneCell'=true)->
 (∀ j,j<cur.size->¬ (fr.1<=j/\j<fr.2))->
 ∃ w' cur',(storeCells ⟨g,o,none⟩ vs i).run P w = .ok () w'/\w'.heap[g]? = some (.cells cur' t fr)/\cur'.size=cur.size/\(∀ j:Nat,cur'[j]? = if o+i<=j/\j<o+i+vs.length then vs[j-(o+i)]? else cur[j]?)/\
  (∀ j,j≠g->w'.heap[j]? = w.heap[j]?)/\w'.heap.size=w.heap.size/\vJ w w'
 | [],i,cur,w,hg,_,_,_=>⟨w,cur,rfl,hg,rfl,λj=>by grind,λ_ _=>rfl,rfl,rfl,rfl,rfl⟩
 | v :: vs,i,cur,w,hg,hl,hv,hfr=>by
  simp only [YF]at hl
  have hlt:o+i<cur.size:=by omega
  have hcell:w.cell? ⟨g,o+i,none⟩=some cur[o+i]:=by simp [World.cell?,hg,hlt]
  have hfz:w.frozen? ⟨g,o+i,none⟩=false:=by
   have:=hfr (o+i) hlt
   simp only [World.frozen?,hg]
   simp_all
  have hg':(w.setCell ⟨g,o+i,none⟩ v).heap[g]? = some (.cells (cur.setIfInBounds (o+i) v) t fr):=by
   simp [World.setCell,Wh,hg]
  obtain ⟨w',cur',h1,h2,h3,h4,h5,h6,h7⟩:=gS (o:=o) vs (i+1) _ _ hg' (by simp;omega) (λu hu=>hv u (YH _ hu)) (by simp_all)
  refine ⟨w',cur',?_,h2,by simp_all,λj=>?_,λj hj=>?_,?_,?_⟩
  .simp only [storeCells,Sem.run_bind,Addr.add_lit,run_store P w _ v .plain (hv v (YI ..)),hcell,hfz]
   simp_all
  .grind
  .rw [h5 j hj]
   simp [World.setCell,Wh,Ne.symm hj]
  .simp_all
  .exact ⟨h7.os,h7.tape,h7.output⟩
theorem wV {id b off} {k} (h:mY id H b off k=1):∃ row v,rowOf (H.get b)=some row/\row[off]? = some v/\k v=1:=by
 unfold mY at h
 rw [aV]at h
 rcases jN h with ⟨l,hb,h1⟩|⟨len,n,hb,h1⟩
 .obtain ⟨v,h2,h3⟩:=tu h1
  exact ⟨l,v,by rw [hb];rfl,h2,h3⟩
 .obtain ⟨h2,h3⟩:=aL h1
  have hlt:=er h2
  rw [ay]at h3
  refine ⟨_,eB (UInt8.ofNat (n/256 ^ off%256)),by rw [hb];rfl,by rw [Yh,qM _ _ _ hlt];rfl,?_⟩
  have e:Qu (Yx n (Yg 8 off)) 255=n/256 ^ off%256:=by
   show (n >>> (8*off)) &&& 255=_
   rw [Yy,QE,show (255:Nat)=2 ^ 8-1 by rfl,QD]
  rw [e]at h3
  simpa [eB] using h3
theorem lY {id b off n} {k} (h:dU id H b off n k=1):∃ row,rowOf (H.get b)=some row/\off+n<=row.length/\k ((row.drop off).take n)=1:=by
 unfold dU at h
 rw [aV]at h
 rcases jN h with ⟨l,hb,h1⟩|⟨len,m,hb,h1⟩
 .obtain ⟨h2,h3⟩:=lR h1
  obtain ⟨h4,h5⟩:=kC h3
  refine ⟨l,by rw [hb];rfl,by grind,h5⟩
 .obtain ⟨h2,h3⟩:=aL h1
  have hle:off+n<=len:=cq h2
  rw [iG]at h3
  refine ⟨_,by rw [hb];rfl,by simpa [aM] using hle,?_⟩
  have e:Yx m (Yg 8 off)=m/256 ^ off:=by
   show m >>> (8*off)=_
   rw [Yy,QE]
  rw [e]at h3
  rw [<- YD0,<- Qv,iV _ _ _ (by omega),iW _ _ _ (by omega)]
  omega
def nj:ee->Option (List V)
 | .view l=>some l
 | bl=>rowOf bl
theorem Ef {bl} {row} (h:nj bl=some row):bl.alive:=by
 cases bl<;>simp [nj,rowOf]at h<;>trivial
theorem PR.aeG (h:PR P base w0 rho H w) {b c:Nat} {row:List V} (hr:rho b=some c) (bM:nj (H.get b)=some row):
 ∃ cs e fr,w.heap[c]? = some (.cells cs e fr)/\∀ (i:Nat) (v:V),row[i]? = some v->(v.one=true\/rowOf (H.get b)=some row)->v.one=true/\(∃ cv,cs[i]? = some cv/\VR (mu rho H w) v cv)/\¬ (fr.1<=i/\i<fr.2):=by
 by_cases ho:rowOf (H.get b)=some row
 .obtain ⟨cs,e,fr,h1,h2⟩:=h.row hr ho
  refine ⟨cs,e,fr,h1,λi v hi _=>?_⟩
  obtain ⟨h3,cv,h4,h5⟩:=h2.1 i v hi
  exact ⟨h3,⟨cv,h4,h5⟩,h2.2 i (YK.1 h4).1⟩
 .obtain ⟨o,h1,h2⟩:=h.cQ b c hr
  cases hb:H.get b with
  | view l=>
   rw [hb]at h2 bM
   simp only [nj,Option.some.injEq]at bM
   subst bM
   obtain ⟨cs,e,fr,rfl,h3⟩:=h2
   exact ⟨cs,e,fr,h1,λi v hi hv=>by
    rcases hv with hv|hv
    .exact ⟨hv,h3 i v hi hv⟩
    .simp [rowOf]at hv⟩
  | _=>rw [hb]at bM ho;exact absurd bM ho
theorem PR.xu (h:PR P base w0 rho H w) {b c:Nat} {row:List V} (hm:(mu rho H w).b b c) (bM:nj (H.get b)=some row):rho b=some c:=hm.2 (Ef bM)
theorem PR.Pe (h:PR P base w0 rho H w) {b c i:Nat} {row:List V} {v:V} (hr:rho b=some c) (bM:nj (H.get b)=some row) (hi:row[i]? = some v) (ho:v.one=true\/rowOf (H.get b)=some row):
 ∃ cv,w.cell? ⟨c,i,none⟩=some cv/\VR (mu rho H w) v cv/\v.one=true/\w.frozen? ⟨c,i,none⟩=false:=by
 obtain ⟨cs,e,fr,h1,h2⟩:=h.aeG hr bM
 obtain ⟨h3,⟨cv,h4,h5⟩,h6⟩:=h2 i v hi ho
 exact ⟨cv,by simp [World.cell?,h1,h4],h5,h3,by simp only [World.frozen?,h1];simpa using h6⟩
theorem PR.Hm (h:PR P base w0 rho H w) {b c o n:Nat} {row:List V} (hr:rho b=some c) (bM:nj (H.get b)=some row) (hn:o+n<=row.length) (ho:(∀ v ∈ (row.drop o).take n,v.one=true)\/rowOf (H.get b)=some row):
 ∃ cs:List Value,(loadCells ⟨c,o,none⟩ n).run P w = .ok cs.toArray w/\cj (mu rho H w) ((row.drop o).take n) cs/\cs.length=n/\∀ (j:Nat) (cv:Value),cs[j]? = some cv->w.cell? ⟨c,o+j,none⟩=some cv/\cv.oneCell'=true/\w.frozen? ⟨c,o+j,none⟩=false:=by
 have key:∀ j,j<n->∃ (v:V) (cv:Value),row[o+j]? = some v/\w.cell? ⟨c,o+j,none⟩=some cv/\VR (mu rho H w) v cv/\cv.oneCell'=true/\w.frozen? ⟨c,o+j,none⟩=false:=λj hj=>by
  have hi:row[o+j]? = some row[o+j]:=YB (by omega)
  have ho':row[o+j].one=true\/rowOf (H.get b)=some row:=ho.imp (λh=>h _ (by
   refine Yi (i:=j) ?_
   rw [WD,if_pos hj,WE]
   exact hi)) id
  obtain ⟨cv,a1,a2,a3,a4⟩:=h.Pe hr bM hi ho'
  exact ⟨_,cv,hi,a1,a2,tz a2 a3,a4⟩
 let cs:List Value:=(WT n).map λj=>(w.cell? ⟨c,o+j,none⟩).getD undef
 have hcs:∀ (j:Nat) (cv:Value),cs[j]? = some cv->j<n/\w.cell? ⟨c,o+j,none⟩=some cv:=λj cv hj=>by
  have hlt:j<n:=by
   have:=(List.getElem?_eq_some_iff.1 hj).1
   simpa [cs] using this
  obtain ⟨v,cv',_,a1,_⟩:=key j hlt
  refine ⟨hlt,?_⟩
  simp only [cs,Yh,List.getElem?_range hlt,Option.map_some,a1,Yn,Option.some.injEq]at hj
  rw [a1,hj]
 have hl:cs.length=n:=by simp [cs]
 refine ⟨cs,?_,?_,hl,λj cv hj=>?_⟩
 .have:=run_loadCells_list (P:=P) w ⟨c,o,none⟩ cs (λj v hv=>by rw [Addr.add_lit];exact (hcs j v hv).2)
  rwa [hl]at this
 .refine cj.oI (by simp [cs];omega) λi v cv h1 h2=>?_
  obtain ⟨hi,h3⟩:=hcs i cv h2
  obtain ⟨v',cv',a1,a2,a3,_⟩:=key i hi
  rw [WD,if_pos hi,WE,a1]at h1
  cases h1
  rw [h3]at a2
  cases a2
  exact a3
 .obtain ⟨hj',h3⟩:=hcs j cv hj
  obtain ⟨v',cv',a1,a2,a3,a4,a5⟩:=key j hj'
  rw [h3]at a2
  cases a2
  exact ⟨h3,a4,a5⟩
theorem L4 {id} {bl} {kc} {kb} {kv} (h:Zp id bl kc kb kv=1):(∃ l,bl = .cells l/\kc l=1)\/(∃ len n,bl = .bytes len n/\kb len n=1)\/∃ l,bl = .view l/\kv l=1:=by
 cases bl<;>first|exact (au h).elim|exact YG ⟨_,rfl,h⟩|exact YE (YG ⟨_,_,rfl,h⟩)|exact YE (YE ⟨_,rfl,h⟩)
theorem yP {id} {v} {k} (h:dZ id v k=1):v.one=true/\k=1:=by
 cases v<;>first|exact (au h).elim|exact ⟨rfl,h⟩
theorem vP {id}:∀ {l} {k},bq id l k=1->(∀ v ∈ l,v.one=true)/\k=1
 | [],k,h=>⟨λ_ h=>absurd h (by simp),h⟩
 | v :: l,k,h=>by
  obtain ⟨h1,h2⟩:=yP (show dZ id v (bq id l k)=1 from h)
  obtain ⟨h3,h4⟩:=vP h2
  simp_all
theorem Pf {id b off} {k} (h:Jk id H b off k=1):∃ row v,nj (H.get b)=some row/\row[off]? = some v/\(v.one=true\/rowOf (H.get b)=some row)/\k v=1:=by
 unfold Jk at h
 rw [aV]at h
 rcases L4 h with ⟨l,hb,h1⟩|⟨len,n,hb,h1⟩|⟨l,hb,h1⟩
 .obtain ⟨row,v,h2,h3,h4⟩:=wV (id:=id) (by unfold mY;rw [aV,hb];exact h1)
  rw [hb]at h2
  exact ⟨row,v,by rw [hb];exact h2,h3,YE (by simp_all),h4⟩
 .obtain ⟨row,v,h2,h3,h4⟩:=wV (id:=id) (by unfold mY;rw [aV,hb];exact h1)
  rw [hb]at h2
  exact ⟨row,v,by rw [hb];exact h2,h3,YE (by simp_all),h4⟩
 .obtain ⟨v,h2,h3⟩:=tu h1
  obtain ⟨h4,h5⟩:=yP h3
  exact ⟨l,v,by rw [hb];rfl,h2,YG h4,h5⟩
theorem Ho {id b off n} {k} (h:D6 id H b off n k=1):∃ row,nj (H.get b)=some row/\off+n<=row.length/\((∀ v ∈ (row.drop off).take n,v.one=true)\/rowOf (H.get b)=some row)/\k ((row.drop off).take n)=1:=by
 unfold D6 at h
 rw [aV]at h
 rcases L4 h with ⟨l,hb,h1⟩|⟨len,m,hb,h1⟩|⟨l,hb,h1⟩
 .obtain ⟨row,h2,h3,h4⟩:=lY (by unfold dU;rw [aV,hb];exact h1)
  rw [hb]at h2
  exact ⟨row,by rw [hb];exact h2,h3,YE (by simp_all),h4⟩
 .obtain ⟨row,h2,h3,h4⟩:=lY (id:=id) (by unfold dU;rw [aV,hb];exact h1)
  rw [hb]at h2
  exact ⟨row,by rw [hb];exact h2,h3,YE (by simp_all),h4⟩
 .obtain ⟨h2,h3⟩:=lR h1
  obtain ⟨h4,h5⟩:=kC h3
  obtain ⟨h6,h7⟩:=vP h5
  exact ⟨l,by rw [hb];rfl,by grind,YG h6,h7⟩
def zW (l:List V) (x:Nat):Prop:=l=(aC l.length x).map eB/\x<256 ^ l.length
def zX (l:List V):Prop:=∀ v ∈ l,∀ x,v = .int 4 x->x<256
theorem wU {id b off n} {k} (h:lX id H b off n k=1):∃ row x,rowOf (H.get b)=some row/\off+n<=row.length/\k x=1/\(∀ v ∈ (row.drop off).take n,∃ x,v = .int 4 x)/\(zX ((row.drop off).take n)->zW ((row.drop off).take n) x):=by
 unfold lX at h
 rw [aV]at h
 rcases jN h with ⟨l,hb,h1⟩|⟨len,m,hb,h1⟩
 .obtain ⟨h2,h3⟩:=lR h1
  obtain ⟨h4,h5⟩:=kC h3
  obtain ⟨x,h6,h60,h7⟩:=oJ h5
  exact ⟨l,x,by rw [hb];rfl,by grind,h6,h60,h7⟩
 .obtain ⟨h2,h3⟩:=aL h1
  have hle:off+n<=len:=cq h2
  rw [ay]at h3
  refine ⟨_,_,by rw [hb];rfl,by simpa [aM] using hle,h3,λv hv=>?_,λ_=>?_⟩
  .rw [<- YD0,<- Qv]at hv
   obtain ⟨y,_,rfl⟩:=List.mem_map.1 hv
   exact ⟨_,rfl⟩
  have e:Yr (Yx m (Yg 8 off)) (YB1 256 n)=m/256 ^ off%256 ^ n:=by
   show (m >>> (8*off))%256 ^ n=_
   rw [Yy,QE]
  rw [e]
  have hl:(((aC len m).map eB).drop off |>.take n).length=n:=by simp [aM];omega
  refine ⟨?_,by rw [hl];omega⟩
  rw [hl,<- YD0,<- Qv,iV _ _ _ (by omega),iW _ _ _ (by omega)]
  congr 1
  exact mQ _ _ _ (by simp)
theorem VR.SF {m:M} {x:Nat} {c:Value} (h:VR m (.int 4 x) c):x<256/\c = .int .u8 x:=by
 simp only [VR]at h
 obtain ⟨h1,h2,_⟩:=h
 have h3:x<256:=h2
 exact ⟨h3,h1.trans (by show Value.int .u8 (toI .u8 x)=_;rw [toI_u8 x h3])⟩
theorem cj.mem {m:M} {l:List V} {cs:List Value} (h:cj m l cs) {v:V} (hv:v ∈ l):∃ c ∈ cs,VR m v c:=by
 obtain ⟨i,hi⟩:=QF hv
 obtain ⟨c,h1,h2⟩:=h.get hi
 exact ⟨c,Yi h1,h2⟩
theorem cj.small {m:M} {l:List V} {cs:List Value} (h:cj m l cs):zX l:=λv hv x e=>by
 obtain ⟨c,_,h2⟩:=h.mem hv
 subst e
 exact h2.SF.1
theorem yh {len x off ml mx:Nat} (hx:x<256 ^ len) (hm:mx<256 ^ ml) (hl:off+ml<=len):
 aC len (YX (Yr x (YB1 256 off)) (Yp (YX mx (Yp (Yx x (Yg 8 (YX off ml))) (Yg 8 ml))) (Yg 8 off)))
  = (aC len x).take off ++ (aC ml mx ++ (aC len x).drop (off+ml))/\
 YX (Yr x (YB1 256 off)) (Yp (YX mx (Yp (Yx x (Yg 8 (YX off ml))) (Yg 8 ml))) (Yg 8 off))<256 ^ len:=by
 have e1:Yx x (Yg 8 (YX off ml))=x/256 ^ (off+ml):=by
  show x >>> (8*(off+ml))=_
  rw [Yy,QE]
 have e2:∀ y k,Yp y (Yg 8 k)=256 ^ k*y:=λy k=>by
  show y <<< (8*k)=_
  rw [Qd,QE,Wl]
 rw [e1,e2,e2]
 show aC len (x%256 ^ off+256 ^ off*(mx+256 ^ ml*(x/256 ^ (off+ml))))=_/\x%256 ^ off+256 ^ off*(mx+256 ^ ml*(x/256 ^ (off+ml)))<_
 have hp:0<256 ^ off:=Nat.pow_pos (by simp)
 have hmod:x%256 ^ off<256 ^ off:=QZ _ hp
 have hd:=by
  apply YD1
  rw [<- YF3,show off+ml+(len-off-ml)=len by omega]
  omega
 constructor
 .have:=eP off (ml+(len-off-ml)) (x%256 ^ off) (mx+256 ^ ml*(x/256 ^ (off+ml))) hmod
  rw [show off+(ml+(len-off-ml))=len by omega]at this
  rw [this,eP ml _ _ _ hm,iW _ _ _ (by omega),iV _ _ _ hl,show len-(off+ml)=len-off-ml by omega]
  rw [mQ off (x%256 ^ off) x (by simp)]
 .have h1:=by
   calc mx+256 ^ ml*(x/256 ^ (off+ml))<256 ^ ml+256 ^ ml*(x/256 ^ (off+ml)):=by omega
    _=256 ^ ml*(x/256 ^ (off+ml)+1):=by grind
    _<=256 ^ ml*256 ^ (len-off-ml):=Qs _ hd
  calc x%256 ^ off+256 ^ off*(mx+256 ^ ml*(x/256 ^ (off+ml)))<256 ^ off+256 ^ off*(mx+256 ^ ml*(x/256 ^ (off+ml))):=by omega
   _=256 ^ off*(mx+256 ^ ml*(x/256 ^ (off+ml))+1):=by grind
   _<=256 ^ off*(256 ^ ml*256 ^ (len-off-ml)):=Qs _ h1
   _=256 ^ len:=by rw [<- YF3,<- YF3];grind
theorem ie.PG {mu:M} {row m:List V} {cs cs':Array Value} {ms:List Value} {fr:Nat × Nat} {o:Nat} (h:ie mu row cs fr) (hm:cj mu m ms) (h1:∀ v ∈ m,v.one=true) (hl:o+m.length<=row.length)
 (hsz:cs'.size=cs.size) (hg:∀ j:Nat,cs'[j]? = if o+0<=j/\j<o+0+ms.length then ms[j-(o+0)]? else cs[j]?):ie mu (row.take o ++ (m ++ row.drop (o+m.length))) cs' fr:=by
 refine ⟨λi v hi=>?_,by rw [hsz];exact h.2⟩
 have hml:=hm.length
 rw [hg]
 by_cases hi1:i<o
 .rw [Yq (by simp;omega),WD,if_pos hi1]at hi
  rw [if_neg (by omega)]
  exact h.1 i v hi
 .rw [Ys (by simp;omega)]at hi
  rw [show (row.take o).length=o by simp;omega]at hi
  by_cases hi2:i-o<m.length
  .rw [Yq hi2]at hi
   rw [if_pos (by omega)]
   obtain ⟨c,h2,h3⟩:=hm.get hi
   exact ⟨h1 v (Yi hi),c,by simpa using h2,h3⟩
  .rw [Ys (by omega),WE,show o+m.length+(i-o-m.length)=i by omega]at hi
   rw [if_neg (by omega)]
   exact h.1 i v hi
theorem sf {mm} {m} {ms} (hv:cj mm m ms) (hone:∀ v ∈ m,v.one=true):∀ u ∈ ms,u.oneCell'=true:=λu hu=>by
 obtain ⟨i,hi⟩:=QF hu
 have hlt:i<m.length:=by
  rw [<- hv.length]
  grind
 obtain ⟨c',h3,h4⟩:=hv.get (YB hlt)
 rw [hi]at h3
 cases h3
 exact tz h4 (hone _ (List.getElem_mem hlt))
theorem xD {id b off} {m} {k} (h1:ez id H b off m k=1):∀ v ∈ m,v.one=true:=by
 unfold ez at h1
 rw [aV]at h1
 rcases jN h1 with ⟨l,hb,h2⟩|⟨len,x,hb,h2⟩
 .exact (ef h2).1
 .obtain ⟨mx,h3,h30,h4⟩:=oJ h2
  exact λv hv=>by obtain ⟨x,rfl⟩:=h30 v hv;rfl
end
end Go.Ev
end
section
namespace Go.Ev
open Go.RowKit
abbrev WF (rd:Option Nat):Fence:={fn:=λ_=>True,depth:=none,alive:=false,round:=rd }
def aA (a:Arg) (e:Env):V:=match a with
 | .s s=>aa s e
 | .c v=>v
theorem ai (a) (e) (k):aI a e k=k (aA a e):=by
 cases a with
 | s s=>exact dX s e k
 | c v=>rfl
theorem gH:∀ (l) (e) (k),nZ l e k=k (l.map (aA · e))
 | [],_,_=>rfl
 | a :: l,e,k=>by
  show aI a e (λv=>nZ l e λr=>k (v :: r))=_
  rw [ai,gH];rfl
theorem qx {mu} {v} {u} (h:mA v=some u):VR mu u v/\u.one=true:=by
 unfold mA at h
 split at h
 .cases h;exact ⟨by rfl,rfl⟩
 .rename_i k n
  split at h
  .rename_i hw
   have hw':=by simpa using hw
   cases h
   refine ⟨?_,rfl⟩
   have hm0:0<=n%(2 ^ k.bits:Nat):=Int.emod_nonneg _ (by cases k<;>decide)
   have hm1:n%(2 ^ k.bits:Nat)<(2 ^ k.bits:Nat):=Int.emod_lt_of_pos _ (by omega)
   simp only [VR,dJ]
   refine ⟨?_,?_,wO k⟩
   .congr 1
    show n=k.wrap _
    rw [Int.toNat_of_nonneg hm0]
    conv=>lhs;rw [<- hw']
    unfold IntKind.wrap
    simp
   .unfold eQ
    omega
  simp_all
 .cases h
  refine ⟨?_,rfl⟩
  simp only [VR]
  rw [fq]
  exact ⟨rfl,iw _⟩
 all_goals first|(cases h;exact ⟨by rfl,rfl⟩)|cases h
theorem lQ {mu}:∀ {l} {r},consts l=some r->cj mu r l/\∀ u ∈ r,u.one=true
 | [],r,h=>by simp only [consts,Option.some.injEq]at h;subst h;exact ⟨by rfl,λ_ h=>absurd h (by simp)⟩
 | v :: l,r,h=>by
  simp only [consts]at h
  split at h
  .rename_i u r' h1 h2
   cases h
   obtain ⟨h3,h4⟩:=qx h1
   obtain ⟨h5,h6⟩:=lQ h2
   exact ⟨by exact ⟨v,l,rfl,h3,h5⟩,λx hx=>(YT.1 hx).elim (λe=>e ▸ h4) (h6 x)⟩
  simp_all
theorem sU {mu} {v} {u} (h:Av v=some u):VR mu u v:=by
 unfold Av at h
 split at h
 .simp only [YY]at h
  obtain ⟨r,h1,rfl⟩:=h
  exact ⟨_,rfl,(lQ h1).1⟩
 .simp only [YY]at h
  obtain ⟨r,h1,rfl⟩:=h
  exact ⟨_,rfl,(lQ h1).1⟩
 .exact (qx h).1
theorem jR {mu} {nt} {e} {a:Act} {x} {ar} (ht:TR mu nt e a.tmps) (h:aK nt x=some ar):VR mu (aA ar e) (a.eval x):=by
 unfold aK at h
 split at h
 .rename_i t
  split at h
  .cases h
   have hs:=ht.size
   have hlt':t<a.tmps.size:=by simp_all
   have hex:=Array.getElem?_eq_getElem hlt'
   have:=ht.get t _ hex
   simpa [aA,Act.eval,hex] using this
  simp_all
 .simp only [YY]at h
  obtain ⟨u,h1,rfl⟩:=h
  exact sU h1
 .cases h
  simp only [aA,Act.eval,VR]
  exact ⟨#[],by simp,by rfl⟩
 simp_all
def OR (mu:M) (nt:Nat) (e:Env) (a:Act) (o:Oper):Prop:=∀ x ∈ o.op.operands,∀ ar,aK nt x=some ar->VR mu (aA ar e) (a.eval x)
theorem TR.or {mu:M} {nt:Nat} {e:Env} {a:Act} (h:TR mu nt e a.tmps) (o:Oper):OR mu nt e a o:=λ_ _ _ h1=>jR h h1
def Left (P:Program) (base:Nat) (w0:World) (rho:Nat->Option Nat) (H:Heap) (w:World) (v:V) (H':Heap) (cv:Value) (w':World):Prop:=
 ∃ rho',VR (mu rho' H' w') v cv/\PR P base w0 rho' H' w'/\Ext rho H w rho' H' w'
def eM (P:Program) (nt:Nat) (o:Oper) (e:Env) (H:Heap) (v:V) (H':Heap):Prop:=
 ∀ (rd:Option Nat) (base:Nat) (w0:World) (rho:Nat->Option Nat) (w:World) (a:Act),PR P base w0 rho H w->OR (mu rho H w) nt e a o->
  o.wpIn (WF rd) 0 P a w (λa' w'=>∃ cv,a'=a.put o.dst cv/\Left P base w0 rho H w v H' cv w') (λ_ _ _=>False)
def FSp (P:Program) (x:V) (args:List V) (H:Heap) (v:V) (H':Heap):Prop:=
 ∀ (rd:Option Nat) (base:Nat) (w0:World) (rho:Nat->Option Nat) (w:World) (cx:Value) (cargs:Array Value),PR P base w0 rho H w->VR (mu rho H w) x cx->cj (mu rho H w) args cargs.toList->
  ∀ (o:Oper) (a:Act),o.uponIn (WF rd) 0 P a (λa' w'=>∃ cv,a'=a.put o.dst cv/\Left P base w0 rho H w v H' cv w') (λ_ _ _=>False) ((do let d <- Deferred.ofValue cx cargs;invoke d.target d.args:Sem Next).run P w)
def gY (P:Program) (f:FuncId) (args:List V) (H:Heap) (v:V) (H':Heap):Prop:=
 ∀ (base:Nat) (w0:World) (rho:Nat->Option Nat) (w:World) (cargs:Array Value),PR P base w0 rho H w->cj (mu rho H w) args cargs.toList->
  (callFunc f cargs).run P w = .ok (.enter f cargs) w/\CallsIn (WF none) 0 P f cargs w λe w'=>∃ cv,e = .returned cv/\Left P base w0 rho H w v H' cv w'
def FSq (P:Program) (x:V) (args:List V) (H:Heap) (v:V) (H':Heap):Prop:=FSp P x args H v H'/\∀ f caps,x = .func (2*f) caps->gY P f (args ++ caps) H v H'
def iM (P:Program) (ph:dg):Prop:=∀ x args H k,ph x args H k=1->∃ v H',FSq P x args H v H'/\k v H'=1
theorem ig (P) (o:Oper) (a:Act) (w) (rd):∀ f,o.about P w a.eval=some f->(WF rd).fn f:=λ_ _=>trivial
theorem semAt_eq {o} {rd} {r} (h:∀ c,o.op ≠ .defer c):o.semAt rd r=execOp r o:=by
 unfold Oper.semAt
 simp_all
theorem eM.of_run {P:Program} {nt:Nat} {o:Oper} {e:Env} {H H':Heap} {v:V} (hnd:∀ c,o.op ≠ .defer c)
 (h:∀ (base:Nat) (w0:World) (rho:Nat->Option Nat) (w:World) (a:Act),PR P base w0 rho H w->OR (mu rho H w) nt e a o->∃ cv w',(execOp a.eval o).run P w = .ok (.value cv) w'/\Left P base w0 rho H w v H' cv w'):eM P nt o e H v H':=by
 intro rd base w0 rho w a hp ho
 obtain ⟨cv,w',h1,h2⟩:=h base w0 rho w a hp ho
 refine ⟨ig P o a w rd,?_⟩
 rw [semAt_eq hnd,h1]
 exact ⟨cv,rfl,h2⟩
theorem eM.Bh {P:Program} {nt:Nat} {o:Oper} {e:Env} {H H':Heap} (hnd:∀ c,o.op ≠ .defer c)
 (h:∀ (base:Nat) (w0:World) (rho:Nat->Option Nat) (w:World) (a:Act),PR P base w0 rho H w->OR (mu rho H w) nt e a o->∃ w',(execOp a.eval o).run P w = .ok .skip w'/\∃ rho',PR P base w0 rho' H' w'/\Ext rho H w rho' H' w'):eM P nt o e H (.cE []) H':=by
 intro rd base w0 rho w a hp ho
 obtain ⟨w',h1,rho',h2,h3⟩:=h base w0 rho w a hp ho
 refine ⟨ig P o a w rd,?_⟩
 rw [semAt_eq hnd,h1]
 exact ⟨undef,rfl,rho',by simp only [VR];exact ⟨#[],rfl,by simp only [cj]⟩,h2,h3⟩
theorem eM.bG {P:Program} {nt:Nat} {o:Oper} {e:Env} {H:Heap} {v:V} (hnd:∀ c,o.op ≠ .defer c)
 (h:∀ (m:M) (w:World) (a:Act),OR m nt e a o->∃ cv,(execOp a.eval o).run P w = .ok (.value cv) w/\VR m v cv):eM P nt o e H v H:=
 eM.of_run hnd λbase w0 rho w a hp ho=>by
  obtain ⟨cv,h1,h2⟩:=h _ w a ho
  exact ⟨cv,w,h1,rho,h2,hp,Ext.refl hp.lt⟩
section
variable {P:Program} {nt:Nat} {o:Oper} {id:Nat} {ph:dg} {e:Env} {H:Heap} {k:K}
def Good (P:Program) (nt:Nat) (o:Oper) (e:Env) (H:Heap) (k:K):Prop:=∃ v H',eM P nt o e H v H'/\k v H'=1
theorem Pr {x} (hop:o.op = .move x\/o.op = .assign x) (h:aN (af P nt o) id ph e H k=1):Good P nt o e H k:=by
 have hc:af P nt o=match aK nt x with|some a=>.kU a|none=>.bad:=by rcases hop with h|h<;>simp only [af,h]<;>rfl
 rw [hc]at h
 split at h
 .rename_i a ha
  have h':aI a e (λv=>k v H)=1:=h
  rw [ai]at h'
  refine ⟨_,_,eM.bG (by grind) λm w ac ho=>?_,h'⟩
  exact ⟨ac.eval x,by rcases hop with h|h<;>simp [execOp,h],ho x (by rcases hop with h|h<;>simp [Op.operands,h]) a ha⟩
 .exact (au h).elim
theorem X3 {c x y} (hop:o.op = .pick c x y) (h:aN (af P nt o) id ph e H k=1):Good P nt o e H k:=by
 simp only [af,hop]at h
 split at h
 .rename_i c' x' y' hc hx hy
  have h':aI c' e (λc=>eF id c λb=>aE b (aI x' e λv=>k v H) (aI y' e λv=>k v H))=1:=h
  rw [ai]at h'
  obtain ⟨b,hb,h2⟩:=mb h'
  rw [ai,ai]at h2
  cases b
  .refine ⟨_,_,eM.bG (by simp_all) λm w ac ho=>?_,h2⟩
   have h3:=ho c (by simp [Op.operands,hop]) c' hc
   rw [hb]at h3
   simp only [VR]at h3
   exact ⟨ac.eval y,by simp [execOp,hop,h3,asBool],ho y (by simp [Op.operands,hop]) y' hy⟩
  .refine ⟨_,_,eM.bG (by simp_all) λm w ac ho=>?_,h2⟩
   have h3:=ho c (by simp [Op.operands,hop]) c' hc
   rw [hb]at h3
   simp only [VR]at h3
   exact ⟨ac.eval x,by simp [execOp,hop,h3,asBool],ho x (by simp [Op.operands,hop]) x' hx⟩
 .exact (au h).elim
end
end Go.Ev
end
section
namespace Go.Ev
theorem eS (m n:Nat):YL m n=decide (m=n):=by
 by_cases h:m=n
 .simp_all
 .rw [decide_eq_false h]
  cases hq:YL m n with
  | false=>rfl
  | true=>simp_all
theorem Q0 (k:IntKind) (x):k.wrap x%(2 ^ k.bits:Int)=x%(2 ^ k.bits:Int):=by
 cases k<;>simp only [IntKind.wrap,IntKind.bits,IntKind.signed,YG3,QO]<;>(simp)<;>omega
theorem qT (k:IntKind) {x y} (h:x%(2 ^ k.bits:Int)=y%(2 ^ k.bits:Int)):k.wrap x=k.wrap y:=by
 unfold IntKind.wrap
 rw [h]
theorem Zt (k):((eQ k:Nat):Int)=2 ^ k.bits:=by rfl
theorem oZ (k) {x} {n:Nat} (h:x%(2 ^ k.bits:Int)=(n:Int)%(2 ^ k.bits:Int)):k.wrap x=toI k n:=qT k h
theorem toI_mod (k) (n):toI k n%(2 ^ k.bits:Int)=(n:Int)%(2 ^ k.bits:Int):=Q0 k _
theorem wN (k):0<eQ k:=by cases k<;>decide
theorem toI_small (k) (n) (h:n<half k):toI k n=n:=by
 show k.wrap (n:Int)=n
 cases k<;>simp only [half,IntKind.wrap,IntKind.bits,IntKind.signed,YG3,QO,if_true,YU,if_false]at * <;> (simp)<;>first|omega|(simp at h2)|rfl
theorem toI_off (k) (n) (h:n<eQ k):toI k n=(((n+fk k)%2 ^ k.bits:Nat):Int)-(fk k:Nat):=by
 show k.wrap (n:Int)=_
 cases k<;>simp [fk,IntKind.wrap,IntKind.bits,IntKind.signed]at * <;> (omega)<;>omega
theorem toI_inj (k) {a b} (ha:a<eQ k) (hb:b<eQ k) (h:toI k a=toI k b):a=b:=by
 have h1:=toI_mod k a
 rw [h,toI_mod k b]at h1
 have e1:(a:Int)%2 ^ k.bits=a:=YF4 (by omega) (by exact_mod_cast ha)
 have e2:(b:Int)%2 ^ k.bits=b:=YF4 (by omega) (by exact_mod_cast hb)
 omega
theorem toI_64 {n} {kd} (hk:3<=kd) (hk8:kd<8) (h:n<9223372036854775808) (hm:n<eQ (oh kd)):toI (oh kd) n=n:=by
 refine toI_small _ _ ?_
 rcases (by omega:kd=3\/kd=4\/kd=5\/kd=6\/kd=7) with rfl|rfl|rfl|rfl|rfl<;>simp [oh,half,IntKind.signed,IntKind.bits,eQ]at * <;> omega
theorem tR (k) {a} (h:a<eQ k):BitVec.ofInt k.bits (toI k a)=BitVec.ofNat k.bits a:=by
 apply BitVec.eq_of_toNat_eq
 rw [BitVec.toNat_ofInt,BitVec.toNat_ofNat]
 have:=toI_mod k a
 grind
section
variable {P:Program} {w:World}
theorem L6 {t:TypeId} {op:BinOp} {k ky:IntKind} {f:BF} {id a b:Nat} {c:Nat->R} (hf:VD op k=some f) (hky:(rK op=false/\ky=k)\/(rK op=true/\(ky.signed=true->ky.bits=64)))
 (h:iA id f a b c=1):∃ r,c r=1/\(a<eQ k->b<eQ ky->r<eQ k/\∀ w:World,(binOp op t (.int k (toI k a)) (.int ky (toI ky b))).run P w = .ok (.int k (toI k r)) w):=by
 have hM:(0:Int)<2 ^ k.bits:=by cases k<;>decide
 have hMn:eQ k=2 ^ k.bits:=rfl
 have hpos:=wN k
 have am:=toI_mod k a
 cases op<;>simp only [VD,Option.some.injEq,reduceCtorEq]at hf<;>subst hf
 .rcases hky with ⟨_,rfl⟩|⟨hs,_⟩
  .have bm:=toI_mod ky b
   have h':av (Yr (YX a b) (2 ^ ky.bits)) c=1:=h
   rw [ay]at h'
   refine ⟨_,h',λha hb=>⟨QZ _ hpos,λw=>?_⟩⟩
   simp only [binOp,ne_eq,not_true_eq_false,if_false,Op.intArith,Sem.run_pure]
   congr 2
   refine oZ ky ?_
   rw [Int.add_emod,am,bm,<- Int.add_emod]
   show _=(((a+b)%2 ^ ky.bits:Nat):Int)%_
   simp
  .cases hs
 .rcases hky with ⟨_,rfl⟩|⟨hs,_⟩
  .have bm:=toI_mod ky b
   have h':av (Yr (YX a (Wx (2 ^ ky.bits) b)) (2 ^ ky.bits)) c=1:=h
   rw [ay]at h'
   refine ⟨_,h',λha hb=>⟨QZ _ hpos,λw=>?_⟩⟩
   simp only [binOp,ne_eq,not_true_eq_false,if_false,Op.intArith,Sem.run_pure]
   congr 2
   refine oZ ky ?_
   rw [Int.sub_emod,am,bm,<- Int.sub_emod]
   show _=(((a+(2 ^ ky.bits-b))%2 ^ ky.bits:Nat):Int)%_
   have hb':b<2 ^ ky.bits:=hb
   rw [Int.natCast_emod,Int.natCast_add,Int.natCast_sub (QN hb')]
   simp only [Int.natCast_pow,Int.cast_ofNat_Int,Int.emod_emod_of_dvd _ (Int.dvd_refl _)]
   rw [show (a:Int)+(2 ^ ky.bits-(b:Int))=((a:Int)-b)+2 ^ ky.bits by omega,Int.add_emod_right]
  .cases hs
 .rcases hky with ⟨_,rfl⟩|⟨hs,_⟩
  .have bm:=toI_mod ky b
   have h':av (Yr (Yg a b) (2 ^ ky.bits)) c=1:=h
   rw [ay]at h'
   refine ⟨_,h',λha hb=>⟨QZ _ hpos,λw=>?_⟩⟩
   simp only [binOp,ne_eq,not_true_eq_false,if_false,Op.intArith,Sem.run_pure]
   congr 2
   refine oZ ky ?_
   rw [YH3,am,bm,<- YH3]
   show _=(((a*b)%2 ^ ky.bits:Nat):Int)%_
   simp
  .cases hs
 .rcases hky with ⟨_,rfl⟩|⟨hs,_⟩
  .have h':aE (Yv a (half ky)) (aE (Yv b (half ky)) (aE (YL b 0) (no _) (av (WX a b) c)) (no _)) (no _)=1:=h
   obtain ⟨h1,h2⟩:=aL h'
   obtain ⟨h3,h4⟩:=aL h2
   rcases bQ h4 with ⟨_,h5⟩|⟨h5,h6⟩
   .exact (au h5).elim
   .rw [ay]at h6
    have hb0:b≠0:=λe=>by subst e;cases h5
    have ha':=er h1
    have hdv:a/b<half ky:=Wk (YI2 a b) ha'
    refine ⟨_,h6,λha hb=>⟨Wk (YI2 a b) ha,λw=>?_⟩⟩
    rw [toI_small ky a ha',toI_small ky b (er h3)]
    have hz:(b:Int)≠0:=by omega
    simp only [binOp,ne_eq,not_true_eq_false,if_false,Op.intDiv,hz,Sem.run_pure]
    congr 2
  .cases hs
 .rcases hky with ⟨_,rfl⟩|⟨hs,_⟩
  .have h':aE (Yv a (half ky)) (aE (Yv b (half ky)) (aE (YL b 0) (no _) (av (Yr a b) c)) (no _)) (no _)=1:=h
   obtain ⟨h1,h2⟩:=aL h'
   obtain ⟨h3,h4⟩:=aL h2
   rcases bQ h4 with ⟨_,h5⟩|⟨h5,h6⟩
   .exact (au h5).elim
   .rw [ay]at h6
    have hb0:b≠0:=λe=>by subst e;cases h5
    have ha':=er h1
    have hdv:a%b<half ky:=Wk (Nat.mod_le a b) ha'
    refine ⟨_,h6,λha hb=>⟨Wk (Nat.mod_le a b) ha,λw=>?_⟩⟩
    rw [toI_small ky a ha',toI_small ky b (er h3)]
    have hz:(b:Int)≠0:=by omega
    simp only [binOp,ne_eq,not_true_eq_false,if_false,Op.intDiv,hz,Sem.run_pure]
    congr 2
    show (a:Int).tmod (b:Int)=toI ky (a%b)
    rw [toI_small ky _ hdv]
    rfl
  .cases hs
 .rcases hky with ⟨_,rfl⟩|⟨hs,_⟩
  .have h':av (Qu a b) c=1:=h
   rw [ay]at h'
   refine ⟨_,h',λha hb=>⟨Wk YN3 ha,λw=>?_⟩⟩
   simp only [binOp,ne_eq,not_true_eq_false,if_false,Op.intBits,tR ky ha,tR ky hb,Sem.run_pure]
   congr 2
   show ky.wrap _=toI ky (a &&& b)
   rw [BitVec.toNat_and,BitVec.toNat_ofNat,BitVec.toNat_ofNat,Yz (show a<2 ^ ky.bits from ha),Yz (show b<2 ^ ky.bits from hb)]
   rfl
  .cases hs
 .rcases hky with ⟨_,rfl⟩|⟨hs,_⟩
  .have h':av (Nat.lor a b) c=1:=h
   rw [ay]at h'
   refine ⟨_,h',λha hb=>⟨Nat.or_lt_two_pow (n:=ky.bits) ha hb,λw=>?_⟩⟩
   simp only [binOp,ne_eq,not_true_eq_false,if_false,Op.intBits,tR ky ha,tR ky hb,Sem.run_pure]
   congr 2
   show ky.wrap _=toI ky (a ||| b)
   rw [BitVec.toNat_or,BitVec.toNat_ofNat,BitVec.toNat_ofNat,Yz (show a<2 ^ ky.bits from ha),Yz (show b<2 ^ ky.bits from hb)]
   rfl
  .cases hs
 .rcases hky with ⟨_,rfl⟩|⟨hs,_⟩
  .have h':av (YM1 a b) c=1:=h
   rw [ay]at h'
   refine ⟨_,h',λha hb=>⟨Nat.xor_lt_two_pow (n:=ky.bits) ha hb,λw=>?_⟩⟩
   simp only [binOp,ne_eq,not_true_eq_false,if_false,Op.intBits,tR ky ha,tR ky hb,Sem.run_pure]
   congr 2
   show ky.wrap _=toI ky (a ^^^ b)
   rw [BitVec.toNat_xor,BitVec.toNat_ofNat,BitVec.toNat_ofNat,Yz (show a<2 ^ ky.bits from ha),Yz (show b<2 ^ ky.bits from hb)]
   rfl
  .cases hs
 .rcases hky with ⟨hs,_⟩|⟨_,hk⟩
  .cases hs
  have hbs:∀ (hb:b<eQ ky) (hlt:b<9223372036854775808),toI ky b=b:=λhb hlt=>by
   refine toI_small _ _ ?_
   unfold half eQ at *
   grind
  have hbits:k.bits<=64:=by cases k<;>decide
  have h':aE (YS b k.bits) (av (Yr (Yp a b) (2 ^ k.bits)) c) (aE (Yv b 9223372036854775808) (c 0) (no _))=1:=h
  rcases bQ h' with ⟨h1,h2⟩|⟨h1,h2⟩
  .have hle:=cq h1
   rw [ay]at h2
   refine ⟨_,h2,λha hb=>⟨QZ _ hpos,λw=>?_⟩⟩
   have hn:¬ ((b:Int)<0):=by omega
   simp only [binOp,Op.shift,hbs hb (by omega),hn,if_false,Sem.run_pure,Qk,QT hle]
   congr 2
   refine oZ k ?_
   rw [YH3,am,<- YH3]
   show _=(((a <<< b)%2 ^ k.bits:Nat):Int)%_
   rw [Qd]
   simp
  .obtain ⟨h3,h4⟩:=aL h2
   have hgt:k.bits<=b:=by
    rcases Yf k.bits b with hlt|hge
    .omega
    .rw [WQ hge]at h1;cases h1
   refine ⟨0,h4,λha hb=>⟨hpos,λw=>?_⟩⟩
   have hn:¬ ((b:Int)<0):=by omega
   simp only [binOp,Op.shift,hbs hb (er h3),hn,if_false,Sem.run_pure,Qk,Qq hgt]
   congr 2
   refine oZ k ?_
   simp
 .rcases hky with ⟨hs,_⟩|⟨_,hk⟩
  .cases hs
  have hbs:∀ (hb:b<eQ ky) (hlt:b<9223372036854775808),toI ky b=b:=λhb hlt=>by
   refine toI_small _ _ ?_
   unfold half eQ at *
   grind
  have hbits:k.bits<=64:=by cases k<;>decide
  have h':aE (Yv a (half k)) (aE (YS b k.bits) (av (Yx a b) c) (aE (Yv b 9223372036854775808) (c 0) (no _))) (no _)=1:=h
  obtain ⟨h0,h0'⟩:=aL h'
  have ha':=er h0
  have hn:¬ ((b:Int)<0):=by omega
  rcases bQ h0' with ⟨h1,h2⟩|⟨h1,h2⟩
  .have hle:=cq h1
   rw [ay]at h2
   have hsm:a >>> b<=a:=by rw [Yy];exact YI2 _ _
   refine ⟨_,h2,λha hb=>⟨Wk hsm ha,λw=>?_⟩⟩
   simp only [binOp,Op.shift,hbs hb (by omega),hn,if_false,Sem.run_pure,Qk,QT hle,toI_small k a ha']
   congr 2
   show (a:Int).fdiv (2 ^ b)=toI k (a >>> b)
   rw [toI_small k _ (Wk hsm ha'),Yy,YE2 _ (by grind)]
   simp
  .obtain ⟨h3,h4⟩:=aL h2
   have hgt:k.bits<=b:=by
    rcases Yf k.bits b with hlt|hge
    .omega
    .rw [WQ hge]at h1;cases h1
   refine ⟨0,h4,λha hb=>⟨hpos,λw=>?_⟩⟩
   simp only [binOp,Op.shift,hbs hb (er h3),hn,if_false,Sem.run_pure,Qk,Qq hgt,toI_small k a ha']
   congr 2
   show (a:Int).fdiv (2 ^ k.bits)=toI k 0
   rw [toI_small k 0 (by grind),YE2 _ (by grind)]
   have:(a:Int)<2 ^ k.bits:=by grind
   rw [Int.ediv_eq_zero_of_lt (by omega) this]
   rfl
 .rcases hky with ⟨_,rfl⟩|⟨hs,_⟩
  .have h':av (Qu a (YM1 b (Nat.pred (2 ^ ky.bits)))) c=1:=h
   rw [ay]at h'
   refine ⟨_,h',λha hb=>⟨Wk YN3 ha,λw=>?_⟩⟩
   simp only [binOp,ne_eq,not_true_eq_false,if_false,Op.intBits,tR ky ha,tR ky hb,Sem.run_pure]
   rw [<- BitVec.xor_allOnes,BitVec.toNat_and,BitVec.toNat_xor,BitVec.toNat_allOnes,BitVec.toNat_ofNat,BitVec.toNat_ofNat,Yz (show a<2 ^ ky.bits from ha),Yz (show b<2 ^ ky.bits from hb)]
   rfl
  .cases hs
theorem aaD {t} {op} {k} {f} {a b} (hf:V5 op k=some f) (ha:a<eQ k) (hb:b<eQ k):
 (binOp op t (.int k (toI k a)) (.int k (toI k b))).run P w = .ok (.bool (dN f a b)) w:=by
 have oa:=toI_off k a ha
 have ob:=toI_off k b hb
 have hinj:toI k a=toI k b↔a=b:=⟨toI_inj k ha hb,λe=>by rw [e]⟩
 have hbeq:=by
  exact eS a b
 have hblt:∀ m n,Yv m n=decide (m<n):=λm n=>by
  by_cases h:m<n
  .simp_all
  .rw [decide_eq_false h]
   cases hq:Yv m n with
   | false=>rfl
   | true=>exact absurd (er hq) h
 have hble:∀ m n,YS m n=decide (m<=n):=λm n=>by
  by_cases h:m<=n
  .simp_all
  .rw [decide_eq_false h]
   cases hq:YS m n with
   | false=>rfl
   | true=>exact absurd (cq hq) h
 cases op<;>simp only [V5,Option.some.injEq,reduceCtorEq]at hf<;>subst hf<;>simp only [binOp,ne_eq,not_true_eq_false,if_false,Op.intCmp,Sem.run_pure]
 .congr 2
  show (toI k a == toI k b)=YL a b
  grind
 .congr 2
  show (toI k a != toI k b)=Bool.rec true false (YL a b)
  rw [hbeq]
  by_cases h:a=b<;>simp [h,hinj]
 .congr 2
  show decide (toI k a<toI k b)=Yv ((a+fk k)%2 ^ k.bits) ((b+fk k)%2 ^ k.bits)
  grind
 .congr 2
  show decide (toI k a<=toI k b)=YS ((a+fk k)%2 ^ k.bits) ((b+fk k)%2 ^ k.bits)
  grind
 .congr 2
  show decide (toI k a>toI k b)=Yv ((b+fk k)%2 ^ k.bits) ((a+fk k)%2 ^ k.bits)
  grind
 .congr 2
  show decide (toI k a>=toI k b)=YS ((b+fk k)%2 ^ k.bits) ((a+fk k)%2 ^ k.bits)
  grind
theorem Y4 {l m n} (hm:m<256 ^ l) (hn:n<256 ^ l):((⟨(aC l m).toArray⟩:ByteArray).toList == (⟨(aC l n).toArray⟩:ByteArray).toList)=YL m n:=by
 have hbeq:=by
  exact eS m n
 rw [hbeq]
 by_cases h:m=n
 .simp_all
 .rw [decide_eq_false h]
  simp only [beq_eq_false_iff_ne,ne_eq]
  intro e
  rw [ByteArray.toList_eq,ByteArray.toList_eq]at e
  exact h (qN hm hn (by omega))
end
end Go.Ev
end
section
set_option maxRecDepth 10000
namespace Go.Ev
open Go.RowKit
section
variable {P:Program} {nt:Nat} {o:Oper} {id:Nat} {ph:dg} {e:Env} {H:Heap} {k:K}
theorem X2 {x} (hop:o.op = .nilCheck x) (h:aN (af P nt o) id ph e H k=1):Good P nt o e H k:=by
 simp only [af,hop]at h
 split at h
 .rename_i a ha
  have h':aI a e _=1:=h
  rw [ai]at h'
  have key:k (aA a e) H=1/\aA a e ≠ .iS/\aA a e ≠ .tp/\aA a e ≠ .DM:=by
   generalize aA a e=v at h'
   cases v<;>first|exact (au h').elim|simp_all
  refine ⟨_,_,eM.bG (by simp_all) λm w ac ho=>?_,key.1⟩
  have h3:=ho x (by simp [Op.operands,hop]) a ha
  refine ⟨ac.eval x,?_,h3⟩
  obtain ⟨_,h4,h5,h6⟩:=key
  generalize aA a e=v at h3 h4 h5 h6
  cases v<;>simp only [VR]at h3<;>
   first
   | grind
   | grind
   | grind
   | (simp [execOp,hop,h3];done)
   | rfl
   | (obtain ⟨c,h3,_⟩:=h3;simp [execOp,hop,h3])
   | (obtain ⟨c,d,o,sp,h3,_⟩:=h3;simp [execOp,hop,h3])
 .exact (au h).elim
theorem np {op} {t} {x y} {k1 k2} {a b} {w}:(eqGuard op t x y (.int k1 a) (.int k2 b)).run P w = .ok () w:=by
 unfold eqGuard
 simp
theorem nr {op} {t} {x y} {a b} {w}:(eqGuard op t x y (.string a) (.string b)).run P w = .ok () w:=by
 unfold eqGuard
 simp
theorem AI {kd ky} {f} {x y} (h:JO kd ky f x y id ph e H k=1):∃ a b,aA x e = .int kd a/\aA y e = .int ky b/\iA id f a b (λr=>k (.int kd r) H)=1:=by
 unfold JO at h
 rw [ai]at h
 obtain ⟨k1,a,ha,h1⟩:=dE h
 rw [ai]at h1
 obtain ⟨k2,b,hb,h2⟩:=dE h1
 obtain ⟨h3,h4⟩:=aL h2
 obtain ⟨h5,h6⟩:=aL h4
 simp_all
def nc:V->Option Nat
 | .bool true=>some 2 | .bool false=>some 3 | .ptr _ _=>some 11 | .iS=>some 10 | .slice _ _ _ _ _=>some 21 | .aw=>some 20 | .map _=>some 31 | .xc=>some 30
 | .func _ _=>some 41 | .tp=>some 40 | .iface _ _=>some 51 | .DM=>some 50 | _=>none
theorem DN {x} {k} (h:gf id x k=1):∃ c,nc x=some c/\k c=1:=by
 cases x<;>first|exact (au h).elim|exact ⟨_,rfl,h⟩|(rename_i b;cases b<;>exact ⟨_,rfl,h⟩)
theorem Sq {kc} {neg} {x y} (h:Sp kc neg x y id ph e H k=1):∃ a b,nc (aA x e)=some a/\nc (aA y e)=some b/\a/10=kc/\b/10=kc/\(a=b->a%10≠1)/\k (.bool (if neg then !decide (a=b) else decide (a=b))) H=1:=by
 unfold Sp at h
 rw [ai]at h
 obtain ⟨a,h1,h2⟩:=DN h
 rw [ai]at h2
 obtain ⟨b,h3,h4⟩:=DN h2
 obtain ⟨h5,h6⟩:=aL h4
 obtain ⟨h7,h8⟩:=aL h6
 refine ⟨a,b,h1,h3,cm h5,cm h7,?_⟩
 rcases bQ h8 with ⟨h9,h10⟩|⟨h9,h10⟩
 .have e:=cm h9
  subst e
  rcases bQ h10 with ⟨_,h11⟩|⟨h11,h12⟩
  .exact (au h11).elim
  .rw [eS]at h11
   have h11':=of_decide_eq_false h11
   refine ⟨λ_=>h11',?_⟩
   rcases bQ h12 with ⟨h13,h14⟩|⟨h13,h14⟩<;>subst h13<;>simpa using h14
 .rw [eS]at h9
  simp_all
theorem OD {x} {a} (h:nc x=some a) (hk:a/10=1):(x = .iS/\a=10)\/∃ b o,x = .ptr b o/\a=11:=by
 cases x<;>simp only [nc,Option.some.injEq,reduceCtorEq]at h<;>(simp)<;>first|grind|grind|omega|grind
theorem DJ {x} {a} (h:nc x=some a) (hk:a/10=2):(x = .aw/\a=20)\/∃ b o l c s,x = .slice b o l c s/\a=21:=by
 cases x<;>simp only [nc,Option.some.injEq,reduceCtorEq]at h<;>(simp)<;>first|grind|grind|omega|grind
theorem OC {x} {a} (h:nc x=some a) (hk:a/10=3):(x = .xc/\a=30)\/∃ b,x = .map b/\a=31:=by
 cases x<;>simp only [nc,Option.some.injEq,reduceCtorEq]at h<;>(simp)<;>first|grind|grind|omega|grind
theorem I9 {x} {a} (h:nc x=some a) (hk:a/10=4):(x = .tp/\a=40)\/∃ f l,x = .func f l/\a=41:=by
 cases x<;>simp only [nc,Option.some.injEq,reduceCtorEq]at h<;>(simp)<;>first|grind|grind|omega|grind
theorem DI {x} {a} (h:nc x=some a) (hk:a/10=5):(x = .DM/\a=50)\/∃ t v,x = .iface t v/\a=51:=by
 cases x<;>simp only [nc,Option.some.injEq,reduceCtorEq]at h<;>(simp)<;>first|grind|grind|omega|grind
theorem I7 {x} {a} (h:nc x=some a) (hk:a/10=0):(x = .bool true/\a=2)\/(x = .bool false/\a=3):=by
 cases x<;>simp only [nc,Option.some.injEq,reduceCtorEq]at h<;>(simp)<;>first|omega|grind
def T4 (P:Program) (kc:Nat) (t:TypeId):Prop:=(kc=0/\P.underlying t=some .bool)\/(kc=1/\∃ d,P.underlying t=some (.pointer d))\/(kc=2/\∃ d,P.underlying t=some (.slice d))\/(kc=3/\∃ d d',P.underlying t=some (.map d d'))\/(kc=4/\∃ d d' d'',P.underlying t=some (.func d d' d''))\/(kc=5/\∃ d,P.underlying t=some (.interface d))
theorem Su {kc:Nat} {t:TypeId} {m:M} {x y:V} {cx cy:Value} {a b:Nat} {w:World} (hu:T4 P kc t)
 (hx:VR m x cx) (hy:VR m y cy) (ha:nc x=some a) (hb:nc y=some b) (hka:a/10=kc) (hkb:b/10=kc) (hab:a=b->a%10≠1):(Op.equal t cx cy).run P w = .ok (decide (a=b)) w:=by
 show (Op.equalIn (9999+1) t cx cy).run P w=_
 generalize 9999=dd
 rcases hu with ⟨rfl,hu⟩|⟨rfl,d,hu⟩|⟨rfl,d,hu⟩|⟨rfl,d,d',hu⟩|⟨rfl,d,d',d'',hu⟩|⟨rfl,d,hu⟩
 .rcases I7 ha hka with ⟨rfl,rfl⟩|⟨rfl,rfl⟩<;>rcases I7 hb hkb with ⟨rfl,rfl⟩|⟨rfl,rfl⟩<;>simp only [VR]at hx hy<;>subst hx hy<;>
   (simp only [Op.equalIn,Sem.run_bind,run_underlying hu,Result.andThen_ok];rfl)
 .rcases OD ha hka with ⟨rfl,rfl⟩|⟨p,q,rfl,rfl⟩<;>rcases OD hb hkb with ⟨rfl,rfl⟩|⟨p',q',rfl,rfl⟩<;>simp only [VR]at hx hy<;>first|exact absurd rfl (hab rfl)|skip
  .subst hx hy; (simp only [Op.equalIn,Sem.run_bind,run_underlying hu,Result.andThen_ok];rfl)
  .obtain ⟨c,rfl,_⟩:=hy;subst hx; (simp only [Op.equalIn,Sem.run_bind,run_underlying hu,Result.andThen_ok];rfl)
  .obtain ⟨c,rfl,_⟩:=hx;subst hy; (simp only [Op.equalIn,Sem.run_bind,run_underlying hu,Result.andThen_ok];rfl)
 .rcases DJ ha hka with ⟨rfl,rfl⟩|⟨p,q,r,s,s1,rfl,rfl⟩<;>rcases DJ hb hkb with ⟨rfl,rfl⟩|⟨p',q',r',s',s2,rfl,rfl⟩<;>simp only [VR]at hx hy<;>first|exact absurd rfl (hab rfl)|skip
  .subst hx hy; (simp only [Op.equalIn,Sem.run_bind,run_underlying hu,Result.andThen_ok];rfl)
  .obtain ⟨c,cap,o',sp,rfl,_⟩:=hy;subst hx; (simp only [Op.equalIn,Sem.run_bind,run_underlying hu,Result.andThen_ok];rfl)
  .obtain ⟨c,cap,o',sp,rfl,_⟩:=hx;subst hy; (simp only [Op.equalIn,Sem.run_bind,run_underlying hu,Result.andThen_ok];rfl)
 .rcases OC ha hka with ⟨rfl,rfl⟩|⟨p,rfl,rfl⟩<;>rcases OC hb hkb with ⟨rfl,rfl⟩|⟨p',rfl,rfl⟩<;>simp only [VR]at hx hy<;>first|exact absurd rfl (hab rfl)|skip
  .subst hx hy; (simp only [Op.equalIn,Sem.run_bind,run_underlying hu,Result.andThen_ok];rfl)
  .obtain ⟨c,rfl,_⟩:=hy;subst hx; (simp only [Op.equalIn,Sem.run_bind,run_underlying hu,Result.andThen_ok];rfl)
  .obtain ⟨c,rfl,_⟩:=hx;subst hy; (simp only [Op.equalIn,Sem.run_bind,run_underlying hu,Result.andThen_ok];rfl)
 .rcases I9 ha hka with ⟨rfl,rfl⟩|⟨p,q,rfl,rfl⟩<;>rcases I9 hb hkb with ⟨rfl,rfl⟩|⟨p',q',rfl,rfl⟩<;>simp only [VR]at hx hy<;>first|exact absurd rfl (hab rfl)|skip
  .subst hx hy; (simp only [Op.equalIn,Sem.run_bind,run_underlying hu,Result.andThen_ok];rfl)
  .obtain ⟨c,rfl,_⟩:=hy;subst hx; (simp only [Op.equalIn,Sem.run_bind,run_underlying hu,Result.andThen_ok];rfl)
  .obtain ⟨c,rfl,_⟩:=hx;subst hy; (simp only [Op.equalIn,Sem.run_bind,run_underlying hu,Result.andThen_ok];rfl)
 .rcases DI ha hka with ⟨rfl,rfl⟩|⟨p,q,rfl,rfl⟩<;>rcases DI hb hkb with ⟨rfl,rfl⟩|⟨p',q',rfl,rfl⟩<;>simp only [VR]at hx hy<;>first|exact absurd rfl (hab rfl)|skip
  .subst hx hy; (simp only [Op.equalIn,Sem.run_bind,run_underlying hu,Result.andThen_ok];rfl)
  .obtain ⟨c,rfl,_⟩:=hy;subst hx; (simp only [Op.equalIn,Sem.run_bind,run_underlying hu,Result.andThen_ok];rfl)
  .obtain ⟨c,rfl,_⟩:=hx;subst hy; (simp only [Op.equalIn,Sem.run_bind,run_underlying hu,Result.andThen_ok];rfl)
theorem OE {m} {x} {cx} {a} (hx:VR m x cx) (ha:nc x=some a):(∀ l,cx ≠ .agg l)/\(cx = .nilIface->a/10=5):=by
 cases x<;>simp only [VR]at hx<;>
  first
  | (simp only [nc,reduceCtorEq]at ha;done)
  | (subst hx;refine ⟨λ_=>nofun,λe=>?_⟩;first | rfl | (simp only [nc,Option.some.injEq]at ha;omega))
  | rfl
  | grind
  | grind
theorem uQ {op} {kc} {t} {m} {ox oy} {x y} {cx cy} {a b} {w} (hx:VR m x cx) (hy:VR m y cy) (ha:nc x=some a) (hb:nc y=some b) (hka:a/10=kc) (hkb:b/10=kc)
 (hc:kc=5->(∃ v,ox = .const v)\/∃ v,oy = .const v):(eqGuard op t ox oy cx cy).run P w = .ok () w:=by
 obtain ⟨h1,h2⟩:=OE hx ha
 unfold eqGuard
 cases op<;>try rfl
 all_goals
  cases cx<;>try rfl
  case agg l=>simp_all
  case nilIface=>
   cases cy<;>try rfl
   rcases hc (hka.symm.trans (h2 rfl)) with ⟨v,rfl⟩|⟨v,rfl⟩
   .rfl
   simp
theorem yN {x} {ar} {nt} {e} (h:aK nt x=some ar) (hi:isC ar=true) {a} (hn:nc (aA ar e)=some a) (hk:a/10=5):∃ v,x = .const v:=by
 unfold aK at h
 split at h
 .split at h<;>cases h;cases hi
 .simp
 .cases h
  simp [aA,nc]at hn
  omega
 simp_all
theorem lT {kc:Nat} {op:BinOp} {xt yt:TypeId} {x y:Operand} {x' y':Arg} (hop:o.op = .binOp op xt x y yt) (hx:aK nt x=some x') (hy:aK nt y=some y') (hu:T4 P kc xt) (hc:kc=5->isC x'=true\/isC y'=true)
 (h:aN (mU kc op x' y') id ph e H k=1):Good P nt o e H k:=by
 have mem:x ∈ o.op.operands/\y ∈ o.op.operands:=by simp [hop,Op.operands]
 have hnd:∀ c,o.op ≠ .defer c:=by simp [hop]
 have key:∀ neg:Bool,(op=if neg then .neq else .eql)->Sp kc neg x' y' id ph e H k=1->Good P nt o e H k:=by
  intro neg hneg h'
  obtain ⟨a,b,h1,h2,h3,h4,h5,h6⟩:=Sq h'
  refine ⟨_,_,eM.bG hnd λm w ac ho=>?_,h6⟩
  have vx:=ho x mem.1 x' hx
  have vy:=ho y mem.2 y' hy
  have hc':kc=5->(∃ v,x = .const v)\/∃ v,y = .const v:=λe5=>(hc e5).imp (λhi=>yN hx hi h1 (h3.trans e5)) (λhi=>yN hy hi h2 (h4.trans e5))
  have hr:=Su (w:=w) hu vx vy h1 h2 h3 h4 h5
  have hg:=uQ (P:=P) (op:=op) (t:=xt) (w:=w) vx vy h1 h2 h3 h4 hc'
  refine ⟨.bool (if neg then !decide (a=b) else decide (a=b)),?_,by simp only [VR]⟩
  simp only [execOp,hop,Sem.run_bind,hg,Result.andThen_ok]
  have hb:(binOp op xt (ac.eval x) (ac.eval y)).run P w = .ok (.bool (if neg then !decide (a=b) else decide (a=b))) w:=by
   have hb':binOp op xt (ac.eval x) (ac.eval y)=if neg then (do pure (.bool (!(<- Op.equal xt (ac.eval x) (ac.eval y))))) else (do pure (.bool (<- Op.equal xt (ac.eval x) (ac.eval y)))):=by
    subst hneg
    generalize ac.eval x=cx at vx
    generalize ac.eval y=cy at vy
    cases hq:aA x' e<;>rw [hq]at h1 vx<;>simp only [nc,Option.some.injEq,reduceCtorEq]at h1<;>simp only [VR]at vx<;>
     first
     | (subst vx;cases neg<;>cases cy<;>rfl)
     | (obtain ⟨c1,vx,_⟩:=vx;subst vx;cases neg<;>cases cy<;>rfl)
     | (obtain ⟨c1,c2,c3,c4,vx,_⟩:=vx;subst vx;cases neg<;>cases cy<;>rfl)
   rw [hb']
   cases neg<;>simp [hr]
  rw [hb]
  rfl
 unfold mU at h
 split at h
 .exact key false (by simp) h
 .exact key true (by simp) h
 .exact (au h).elim
end
end Go.Ev
end
section
namespace Go.Ev
open Go.RowKit
section
variable {P:Program} {nt:Nat} {o:Oper} {id:Nat} {ph:dg} {e:Env} {H:Heap} {k:K}
theorem X4 {op} {xt} {x} (hop:o.op = .unOp op xt x) (h:aN (af P nt o) id ph e H k=1):Good P nt o e H k:=by
 simp only [af,hop]at h
 have mem:x ∈ o.op.operands:=by simp [hop,Op.operands]
 have hnd:∀ c,o.op ≠ .defer c:=by simp_all
 split at h
 .rename_i x' hx
  have h':NB x' id ph e H k=1:=h
  unfold NB at h'
  rw [ai]at h'
  obtain ⟨b,hb,h1⟩:=mb h'
  have h2:k (.bool (!b)) H=1:=by
   rcases bQ h1 with ⟨h2,h3⟩|⟨h2,h3⟩<;>subst h2<;>exact h3
  refine ⟨_,_,eM.bG hnd λm w ac ho=>?_,h2⟩
  have v:=ho x mem x' hx
  rw [hb]at v
  simp only [VR]at v
  exact ⟨.bool (!b),by simp [execOp,hop,v,Op.unary],by rfl⟩
 .rename_i x' hx
  split at h
  .rename_i kx hk
   have h':JO (lB kx) (lB kx) (.sub (2 ^ kx.bits)) (.c (.int (lB kx) 0)) x' id ph e H k=1:=h
   obtain ⟨a,b,ha,hb,h1⟩:=AI h'
   simp only [aA,V.int.injEq,true_and]at ha
   subst ha
   obtain ⟨r,h2,h3⟩:=L6 (P:=P) (t:=xt) (op:=.sub) rfl (YG ⟨rfl,rfl⟩) h1
   refine ⟨_,_,eM.bG hnd λm w ac ho=>?_,h2⟩
   have v:=ho x mem x' hx
   rw [hb]at v
   simp only [VR,dJ]at v
   obtain ⟨h4,h5⟩:=h3 (wN kx) v.2.1
   have h6:=h5 w
   rw [toI_small kx 0 (by cases kx<;>decide)]at h6
   simp only [binOp,ne_eq,not_true_eq_false,if_false]at h6
   exact ⟨.int kx (toI kx r),by simp only [execOp,hop,v.1,Op.unary,Sem.run_bind];simp_all,by simp only [VR,dJ];simp_all⟩
  .exact (au h).elim
 .rename_i x' hx
  split at h
  .rename_i kx hk
   have h':JO (lB kx) (lB kx) .VS (.c (.int (lB kx) (2 ^ kx.bits-1))) x' id ph e H k=1:=h
   obtain ⟨a,b,ha,hb,h1⟩:=AI h'
   simp only [aA,V.int.injEq,true_and]at ha
   subst ha
   obtain ⟨r,h2,h3⟩:=L6 (P:=P) (t:=xt) (op:=.xor) rfl (YG ⟨rfl,rfl⟩) h1
   refine ⟨_,_,eM.bG hnd λm w ac ho=>?_,h2⟩
   have v:=ho x mem x' hx
   rw [hb]at v
   simp only [VR,dJ]at v
   obtain ⟨h4,h5⟩:=h3 (by cases kx<;>decide) v.2.1
   have h6:=h5 w
   have h7:toI kx (2 ^ kx.bits-1)=if kx.signed then -1 else kx.max:=by cases kx<;>decide
   simp only [binOp,ne_eq,not_true_eq_false,if_false]at h6
   exact ⟨.int kx (toI kx r),by simp only [execOp,hop,v.1,Op.unary,Sem.run_bind];simp_all,by simp only [VR,dJ];simp_all⟩
  .exact (au h).elim
 .exact (au h).elim
theorem uR {t} {x} (hop:o.op = .makeInterface t x) (h:aN (af P nt o) id ph e H k=1):Good P nt o e H k:=by
 simp only [af,hop]at h
 have mem:x ∈ o.op.operands:=by simp [hop,Op.operands]
 have hnd:∀ c,o.op ≠ .defer c:=by simp_all
 split at h
 .exact (au h).elim
 .rename_i x' d hni hx hu
  have h':W8 t x' id ph e H k=1:=h
  unfold W8 at h'
  rw [ai]at h'
  refine ⟨_,_,eM.bG hnd λm w ac ho=>?_,h'⟩
  have v:=ho x mem x' hx
  refine ⟨.iface t (ac.eval x),?_,by simp only [VR];simp_all⟩
  simp only [execOp,hop,Instr.makeInterface,Sem.run_bind,run_underlying hu,Result.andThen_ok]
  rfl
 .exact (au h).elim
theorem BA {x} {xt t} {ok} (hop:o.op = .typeAssert x xt t ok) (h:aN (af P nt o) id ph e H k=1):Good P nt o e H k:=by
 simp only [af,hop]at h
 have mem:x ∈ o.op.operands:=by simp [hop,Op.operands]
 have hnd:∀ c,o.op ≠ .defer c:=by simp_all
 split at h
 .exact (au h).elim
 .rename_i x' d hni hx hu
  have h':Xf t x' id ph e H k=1:=h
  unfold Xf at h'
  rw [ai]at h'
  obtain ⟨u,hv,h2⟩:=Za h'
  refine ⟨_,_,eM.bG hnd λm w ac ho=>?_,h2⟩
  have v:=ho x mem x' hx
  rw [hv]at v
  obtain ⟨cu,hc,hcu⟩:=v
  refine ⟨.tuple #[cu,.bool true],?_,by exact ⟨_,rfl,by exact ⟨_,_,rfl,hcu,_,_,rfl,by rfl,rfl⟩⟩⟩
  simp only [execOp,hop,hc,Instr.typeAssert,Sem.run_bind,run_underlying hu,Result.andThen_ok]
  rfl
 .exact (au h).elim
theorem iO {m} {ac:Act}:∀ {l} {r},bT nt l=some r->(∀ x ∈ l,∀ ar,aK nt x=some ar->VR m (aA ar e) (ac.eval x))->cj m (r.map (aA · e)) (l.map ac.eval)
 | [],r,h,_=>by simp only [bT,Option.some.injEq]at h;subst h;rfl
 | x :: l,r,h,ho=>by
  simp only [bT]at h
  split at h
  .rename_i a r' h1 h2
   cases h
   exact ⟨_,_,rfl,ho x (YI ..) a h1,iO h2 λy hy=>ho y (YH _ hy)⟩
  simp_all
theorem Hz {f} {first caps} (hop:o.op = .makeFunc (.func f) first caps) (h:aN (af P nt o) id ph e H k=1):Good P nt o e H k:=by
 simp only [af,hop]at h
 have hnd:∀ c,o.op ≠ .defer c:=by simp_all
 split at h
 .rename_i l hf hl
  have h':NF (2*f) l id ph e H k=1:=h
  unfold NF at h'
  rw [gH]at h'
  refine ⟨_,_,eM.bG hnd λm w ac ho=>?_,h'⟩
  have hf':first = #[]:=by simp_all
  subst hf'
  refine ⟨.func (.func f) #[] (caps.map ac.eval),by simp [execOp,hop,Instr.makeFunc],?_⟩
  simp only [VR]
  have:=iO hl λx hx=>ho x (by simp [hop,Op.operands];simp_all)
  simp_all
 .rename_i q qs hf hc
  split at h
  .rename_i l hl
   have h':NF (2*f+1) l id ph e H k=1:=h
   unfold NF at h'
   rw [gH]at h'
   refine ⟨_,_,eM.bG hnd λm w ac ho=>?_,h'⟩
   have hcl:caps.toList=[]:=by
    cases hct:caps.toList with
    | nil=>rfl
    | cons y ys=>
     rw [hct]at hc
     simp only [bT]at hc
     grind
   have hc':caps = #[]:=by simp_all
   subst hc'
   refine ⟨.func (.func f) (first.map ac.eval) #[],by simp [execOp,hop,Instr.makeFunc],?_⟩
   refine ⟨first.map ac.eval,by simp [Nat.mul_add_div],?_⟩
   have:=iO hl λx hx=>ho x (by simp [hop,Op.operands];grind)
   simp_all
  .exact (au h).elim
 .exact (au h).elim
theorem KT {x} {i} (hop:o.op = .extract x i) (h:aN (af P nt o) id ph e H k=1):Good P nt o e H k:=by
 simp only [af,hop]at h
 have mem:x ∈ o.op.operands:=by simp [hop,Op.operands]
 have hnd:∀ c,o.op ≠ .defer c:=by simp_all
 split at h
 .rename_i x' hx
  have h':Nu x' i id ph e H k=1:=h
  unfold Nu at h'
  rw [ai]at h'
  obtain ⟨l,hl,h1⟩:=TW h'
  obtain ⟨v,hv,h2⟩:=tu h1
  refine ⟨_,_,eM.bG hnd λm w ac ho=>?_,h2⟩
  have vx:=ho x mem x' hx
  rw [hl]at vx
  obtain ⟨cs,hcs,hr⟩:=vx
  obtain ⟨c,hc,hvr⟩:=hr.get hv
  refine ⟨c,?_,hvr⟩
  have hc':cs[i]? = some c:=by simp_all
  simp [execOp,hop,hcs,Instr.extract,hc']
 .exact (au h).elim
theorem Ei {t} {x} {f} (hop:o.op = .fieldAddr t x f) (h:aN (af P nt o) id ph e H k=1):Good P nt o e H k:=by
 simp only [af,hop]at h
 have mem:x ∈ o.op.operands:=by simp [hop,Op.operands]
 have hnd:∀ c,o.op ≠ .defer c:=by simp_all
 split at h
 .rename_i x' fs hx hu
  split at h
  .rename_i fd hfd
   split at h
   .rename_i n hsz
    have h':Nv fd.offset x' id ph e H k=1:=h
    unfold Nv at h'
    rw [ai]at h'
    obtain ⟨b,off,hb,h1⟩:=fF h'
    rw [ay]at h1
    refine ⟨_,_,eM.bG hnd λm w ac ho=>?_,h1⟩
    have vx:=ho x mem x' hx
    rw [hb]at vx
    obtain ⟨c,hc,hm⟩:=vx
    refine ⟨.pointer (some ⟨c,off+fd.offset,none⟩),?_,by simp only [VR];simp_all⟩
    simp only [pV,YY]at hsz
    obtain ⟨ti,hti,hsz⟩:=hsz
    have hs:(sizeOf fd.type).run P w = .ok (n+1) w:=by
     simp [sizeOf,typeInfo,hti,hsz]
    simp [execOp,hop,hc,Instr.fieldAt,run_underlying hu,hfd,Instr.sureAddr,fieldPlace,hs,Addr.add_lit]
   .exact (au h).elim
  .exact (au h).elim
 .exact (au h).elim
theorem fO {t} {cs} {off} {l} {m} (hr:cj m l cs.toList) {w}:
 (∀ n,lj P t=some true->pV P t=some n->off+n<=l.length->∃ q:Array Value,(part t cs off).run P w = .ok (.agg q) w/\cj m ((l.drop off).take n) q.toList)/\
 (∀ v,lj P t=some false->l[off]? = some v->∃ c,(part t cs off).run P w = .ok c w/\VR m v c):=by
 have hlen:=hr.length
 constructor
 .intro n ha hs hle
  have hag:(isAgg t).run P w = .ok true w:=by
   unfold lj at ha
   split at ha<;>simp at ha
   all_goals (rename_i hu;simp [isAgg,run_underlying hu])
  simp only [pV,YY]at hs
  obtain ⟨ti,hti,hsz⟩:=hs
  have hsz':(sizeOf t).run P w = .ok n w:=by simp [sizeOf,typeInfo,hti,hsz]
  refine ⟨cs.extract off (off+n),by simp [part,hag,hsz'],?_⟩
  refine cj.oI ?_ λi v c h1 h2=>?_
  .simp_all
  .rw [WD]at h1
   split at h1
   .rw [WE]at h1
    obtain ⟨c',h3,h4⟩:=hr.get h1
    simp_all
   simp_all
 .intro v ha hv
  have hag:(isAgg t).run P w = .ok false w:=by
   unfold lj at ha
   split at ha<;>simp at ha
   rename_i d h1 h2 hu
   simp only [isAgg,Sem.run_bind,run_underlying hu,Result.andThen_ok]
   rfl
  obtain ⟨c,h3,h4⟩:=hr.get hv
  rw [Yo]at h3
  exact ⟨c,by simp [part,hag,h3],h4⟩
theorem TF {t} {x} {f} (hop:o.op = .field t x f) (h:aN (af P nt o) id ph e H k=1):Good P nt o e H k:=by
 simp only [af,hop]at h
 have mem:x ∈ o.op.operands:=by simp [hop,Op.operands]
 have hnd:∀ c,o.op ≠ .defer c:=by simp_all
 split at h
 .rename_i x' fs hx hu
  split at h
  .rename_i fd hfd
   split at h
   .rename_i n hag hsz
    have h':Nx fd.offset n x' id ph e H k=1:=h
    unfold Nx at h'
    rw [ai]at h'
    obtain ⟨l,hl,h1⟩:=pN h'
    obtain ⟨h2,h3⟩:=lR h1
    obtain ⟨h4,h5⟩:=kC h3
    refine ⟨_,_,eM.bG hnd λm w ac ho=>?_,h5⟩
    have vx:=ho x mem x' hx
    rw [hl]at vx
    obtain ⟨cs,hc,hr⟩:=vx
    obtain ⟨q,hq,hqr⟩:=(fO (off:=fd.offset) hr (w:=w)).1 n hag hsz (by grind)
    exact ⟨.agg q,by simp [execOp,hop,hc,Instr.field,run_underlying hu,hfd,asAgg,hq],by simp only [VR];simp_all⟩
   .rename_i n hag hsz
    have h':Nw fd.offset x' id ph e H k=1:=h
    unfold Nw at h'
    rw [ai]at h'
    obtain ⟨l,hl,h1⟩:=pN h'
    obtain ⟨v,h2,h3⟩:=tu h1
    refine ⟨_,_,eM.bG hnd λm w ac ho=>?_,h3⟩
    have vx:=ho x mem x' hx
    rw [hl]at vx
    obtain ⟨cs,hc,hr⟩:=vx
    obtain ⟨q,hq,hqr⟩:=(fO hr (w:=w)).2 v hag h2
    exact ⟨q,by simp [execOp,hop,hc,Instr.field,run_underlying hu,hfd,asAgg,hq],hqr⟩
   .exact (au h).elim
  .exact (au h).elim
 .exact (au h).elim
theorem AV {i'} {len} {c} (h:idx id i' e len c=1):∃ n,c n=1/\n<len/\∀ (m) (cv),VR m (aA i' e) cv->∃ kd,cv = .int kd n:=by
 unfold idx at h
 rw [ai]at h
 obtain ⟨kd,n,hn,h1⟩:=dE h
 obtain ⟨h2,h3⟩:=aL h1
 obtain ⟨h4,h5⟩:=aL h3
 obtain ⟨h6,h7⟩:=aL h5
 refine ⟨n,h7,er h4,λm cv hv=>?_⟩
 rw [hn]at hv
 exact ⟨oh kd,by rw [hv.1,toI_64 (cq h2) hv.2.2 (er h6) hv.2.1]⟩
theorem cH {t} {n} (h:pV P t=some n) (w):(sizeOf t).run P w = .ok n w:=by
 simp only [pV,YY]at h
 obtain ⟨ti,hti,hsz⟩:=h
 simp [sizeOf,typeInfo,hti,hsz]
theorem Ej {t:TypeId} {x i:Operand} (hop:o.op = .indexAddr t x i) (h:aN (af P nt o) id ph e H k=1):Good P nt o e H k:=by
 simp only [af,hop]at h
 have mem:x ∈ o.op.operands/\i ∈ o.op.operands:=by simp [hop,Op.operands]
 have hnd:∀ c,o.op ≠ .defer c:=by simp [hop]
 split at h
 .rename_i x' i' len el hx hi hu
  split at h
  .rename_i s hs
   have h':V9 len s x' i' id ph e H k=1:=h
   unfold V9 at h'
   rw [ai]at h'
   obtain ⟨b,off,hb,h1⟩:=fF h'
   obtain ⟨n,h2,h3,h4⟩:=AV h1
   rw [ay]at h2
   refine ⟨_,_,eM.bG hnd λm w ac ho=>?_,h2⟩
   have vx:=ho x mem.1 x' hx
   obtain ⟨kd,hki⟩:=h4 m _ (ho i mem.2 i' hi)
   rw [hb]at vx
   simp only [VR]at vx
   obtain ⟨c,hc,hm⟩:=vx
   refine ⟨.pointer (some ⟨c,off+n*s,none⟩),?_,by simp only [VR];grind⟩
   have hlt:(0:Int)<=(n:Int)/\(n:Int)<(len:Int):=by omega
   simp [execOp,hop,hc,hki,Instr.indexAt,asIntOf,run_underlying hu,Instr.sureAddr,cH hs,h3,Addr.add_lit]
  .exact (au h).elim
 .rename_i x' i' el hx hi hu
  split at h
  .rename_i s hs
   have h':W6 s x' i' id ph e H k=1:=h
   unfold W6 at h'
   rw [ai]at h'
   obtain ⟨b,off,len,cp,sz,hb,h1⟩:=Lf h'
   obtain ⟨n,h2,h3,h4⟩:=AV h1
   rw [ay]at h2
   refine ⟨_,_,eM.bG hnd λm w ac ho=>?_,h2⟩
   have vx:=ho x mem.1 x' hx
   obtain ⟨kd,hki⟩:=h4 m _ (ho i mem.2 i' hi)
   rw [hb]at vx
   obtain ⟨c,cap,o',sp,hc,hm,hle,hcp,ho'⟩:=vx
   obtain ⟨rfl,rfl⟩:o'=off/\sp=none:=by
    grind
   refine ⟨.pointer (some ⟨c,o'+n*s,none⟩),?_,by simp only [VR];grind⟩
   simp [execOp,hop,hc,hki,Instr.indexAt,asIntOf,run_underlying hu,cH hs,h3,Addr.add_lit]
  .exact (au h).elim
 .exact (au h).elim
theorem TG {t:TypeId} {x i:Operand} (hop:o.op = .index t x i) (h:aN (af P nt o) id ph e H k=1):Good P nt o e H k:=by
 simp only [af,hop]at h
 have mem:x ∈ o.op.operands/\i ∈ o.op.operands:=by simp [hop,Op.operands]
 have hnd:∀ c,o.op ≠ .defer c:=by simp [hop]
 split at h
 .rename_i x' i' hx hi hu
  have h':W2 x' i' id ph e H k=1:=h
  unfold W2 at h'
  rw [ai]at h'
  obtain ⟨len,mm,hb,h1⟩:=ek h'
  obtain ⟨n,h2,h3,h4⟩:=AV h1
  rw [ay]at h2
  refine ⟨_,_,eM.bG hnd λm w ac ho=>?_,h2⟩
  have vx:=ho x mem.1 x' hx
  obtain ⟨kd,hki⟩:=h4 m _ (ho i mem.2 i' hi)
  rw [hb]at vx
  simp only [VR]at vx
  have hg:=qM len mm n h3
  have e1:Qu (Yx mm (Yg 8 n)) 255=(UInt8.ofNat (mm/256 ^ n%256)).toNat:=by
   show (mm >>> (8*n)) &&& 255=_
   rw [Yy,QE,show (255:Nat)=2 ^ 8-1 by rfl,QD,toNat_byte]
  rw [e1]
  refine ⟨.int .u8 (UInt8.ofNat (mm/256 ^ n%256)).toNat,?_,uV m _⟩
  have hlen:(aC len mm).length=len:=aM len mm
  have hbg:(⟨(aC len mm).toArray⟩:ByteArray)[n]? = some (UInt8.ofNat (mm/256 ^ n%256)):=by
   have hlt:n<(⟨(aC len mm).toArray⟩:ByteArray).size:=by simp [ByteArray.size,hlen,h3]
   rw [getElem?_pos (⟨(aC len mm).toArray⟩:ByteArray) n hlt]
   congr 1
   have:(aC len mm)[n]'(by omega)=UInt8.ofNat (mm/256 ^ n%256):=by
    grind
   rw [<- this]
   rfl
  simp [execOp,hop,vx.1,hki,Instr.index,asIntOf,run_underlying hu,hbg]
 .rename_i x' i' len el hx hi hu
  split at h
  .rename_i s ag hs hag
   have h':W0 len s ag x' i' id ph e H k=1:=h
   unfold W0 at h'
   rw [ai]at h'
   obtain ⟨l,hb,h1⟩:=pN h'
   obtain ⟨n,h2,h3,h4⟩:=AV h1
   rcases bQ h2 with ⟨h5,h6⟩|⟨h5,h6⟩
   .subst h5
    obtain ⟨h7,h8⟩:=lR h6
    obtain ⟨h9,h10⟩:=kC h8
    refine ⟨_,_,eM.bG hnd λm w ac ho=>?_,h10⟩
    have vx:=ho x mem.1 x' hx
    obtain ⟨kd,hki⟩:=h4 m _ (ho i mem.2 i' hi)
    rw [hb]at vx
    simp only [VR]at vx
    obtain ⟨cs,hc,hr⟩:=vx
    have h7':n*s<=l.length:=h7
    obtain ⟨q,hq,hqr⟩:=(fO (P:=P) (t:=el) (off:=n*s) hr (w:=w)).1 s hag hs (by
     grind)
    exact ⟨.agg q,by simp [execOp,hop,hc,hki,Instr.index,asIntOf,run_underlying hu,cH hs,h3,hq],by simp only [VR];grind⟩
   .subst h5
    obtain ⟨v,h7,h8⟩:=tu h6
    refine ⟨_,_,eM.bG hnd λm w ac ho=>?_,h8⟩
    have vx:=ho x mem.1 x' hx
    obtain ⟨kd,hki⟩:=h4 m _ (ho i mem.2 i' hi)
    rw [hb]at vx
    obtain ⟨cs,hc,hr⟩:=vx
    obtain ⟨q,hq,hqr⟩:=(fO (P:=P) (t:=el) (off:=n*s) hr (w:=w)).2 v hag h7
    exact ⟨q,by simp [execOp,hop,hc,hki,Instr.index,asIntOf,run_underlying hu,cH hs,h3,hq],hqr⟩
  .exact (au h).elim
 .exact (au h).elim
end
end Go.Ev
end
section
namespace Go.Ev
open Go.RowKit
section
variable {P:Program} {nt:Nat} {o:Oper} {id:Nat} {ph:dg} {e:Env} {H:Heap} {k:K}
def ZJ (P:Program) (c:Nat) (a b:V) (r:Bool):Prop:=∀ (m:M) (cx cy:Value),VR m a cx->VR m b cy->∀ (dd:Nat) (t:TypeId) (w:World),(c=0->P.underlying t=some .bool)->(c=1->∃ q,P.underlying t=some (.int q))->(2<=c->P.underlying t=some .string)->(Op.equalIn (dd+1) t cx cy).run P w = .ok r w
theorem Kc {c} {x y} {k} (h:Gw id c x y k=1):∃ r,k r=1/\ZJ P c x y r:=by
 match c,h with
 | 0,h=>
  have h':eF id x (λa=>eF id y λb=>aE a (k b) (aE b (k false) (k true)))=1:=h
  obtain ⟨a,rfl,h1⟩:=mb h'
  obtain ⟨b,rfl,h2⟩:=mb h1
  refine ⟨a == b,by cases a<;>cases b<;>exact h2,λm cx cy vx vy dd t w h0 _ _=>?_⟩
  subst vx vy
  exact run_equalIn_bool' w dd t a b (h0 rfl)
 | 1,h=>
  have h':cC id x (λk1 a=>cC id y λk2 b=>aE (YL k1 k2) (k (YL a b)) (no _))=1:=h
  obtain ⟨k1,a,rfl,h1⟩:=dE h'
  obtain ⟨k2,b,rfl,h2⟩:=dE h1
  obtain ⟨h3,h4⟩:=aL h2
  have:=cm h3
  subst this
  refine ⟨_,h4,λm cx cy vx vy dd t w _ h1 _=>?_⟩
  obtain ⟨q,hq⟩:=h1 rfl
  rw [vx.1,vy.1,run_equalIn_int w dd t _ q _ _ hq,eS]
  by_cases hab:a=b
  .simp_all
  .have:=λe=>hab (toI_inj _ vx.2.1 vy.2.1 e)
   simp_all
 | c+2,h=>
  have h':ec id x (λl1 a=>ec id y λl2 b=>aE (YL l1 l2) (k (YL a b)) (k false))=1:=h
  obtain ⟨l1,a,rfl,h1⟩:=ek h'
  obtain ⟨l2,b,rfl,h2⟩:=ek h1
  have hf:k (decide (l1=l2) && decide (a=b))=1:=by
   rcases bQ h2 with ⟨h3,h4⟩|⟨h3,h4⟩
   .rw [eS]at h3 h4
    simp_all
   .rw [eS]at h3
    simp_all
  refine ⟨_,hf,λm cx cy vx vy dd t w _ _ h2=>?_⟩
  rw [vx.1,vy.1,run_equalIn_string w dd t _ _ (h2 (by omega))]
  congr 1
  rw [ByteArray.toList_eq,ByteArray.toList_eq]
  by_cases hl:l1=l2
  .subst hl
   by_cases hab:a=b
   .simp_all
   .simp only [hab,decide_false,Bool.and_false,beq_eq_false_iff_ne,ne_eq]
    intro e
    exact hab (qN vx.2 vy.2 (by omega))
  .simp only [hl,decide_false,QO,beq_eq_false_iff_ne,ne_eq]
   intro e
   have:=congrArg Wo e
   simp [aM]at this
   omega
def Jv (P:Program):List Nat->List V->List V->Bool->Prop
 | [],_,_,b=>b=true
 | c :: cls,l,m,b=>∃ a l' a' m' r,l=a :: l'/\m=a' :: m'/\ZJ P c a a' r/\(r=true->Jv P cls l' m' b)/\(r=false->b=false)
theorem IV:∀ {cls} {l m} {k},lq id cls l m k=1->∃ b,k b=1/\Jv P cls l m b
 | [],l,m,k,h=>⟨true,h,rfl⟩
 | c :: cls,[],m,k,h=>(au h).elim
 | c :: cls,a :: l,[],k,h=>(au h).elim
 | c :: cls,a :: l,a' :: m,k,h=>by
  have h':=h
  obtain ⟨r,h1,h2⟩:=Kc h'
  cases r with
  | true=>
   obtain ⟨b,h3,h4⟩:=IV (show lq id cls l m k=1 from h1)
   exact ⟨b,h3,a,l,a',m,true,rfl,rfl,h2,λ_=>h4,λh=>(by cases h)⟩
  | false=>exact ⟨false,h1,a,l,a',m,false,rfl,rfl,h2,λh=>(by cases h),λ_=>rfl⟩
theorem Jv.split:∀ {c r:List Nat} {l m:List V} {b:Bool},Jv P (c ++ r) l m b->∃ b1,Jv P c (l.take c.length) (m.take c.length) b1/\(b1=true->Jv P r (l.drop c.length) (m.drop c.length) b)/\(b1=false->b=false)
 | [],r,l,m,b,h=>⟨true,rfl,λ_=>by simpa using h,λh=>(by cases h)⟩
 | c :: cs,r,l,m,b,h=>by
  obtain ⟨a,l',a',m',q,rfl,rfl,h1,h2,h3⟩:=h
  cases q with
  | true=>
   obtain ⟨b1,h4,h5,h6⟩:=Jv.split (h2 rfl)
   exact ⟨b1,⟨a,_,a',_,true,rfl,rfl,h1,λ_=>h4,λh=>(by cases h)⟩,λe=>by simpa using h5 e,h6⟩
  | false=>exact ⟨false,⟨a,_,a',_,false,rfl,rfl,h1,λh=>(by cases h),λ_=>rfl⟩,λh=>(by cases h),λ_=>h3 rfl⟩
theorem sS {t} {d} {c} (h:uN P (d+1) t=some c):(lj P t=some false/\∃ q,c=[q]/\(q=0->P.underlying t=some .bool)/\(q=1->∃ kd,P.underlying t=some (.int kd))/\(2<=q->P.underlying t=some .string))\/
 (lj P t=some true/\P.underlying t=some (.struct (P.fieldsOf t))/\P.stoodInHeld t=false/\tU P (uN P d) (P.fieldsOf t).toList 0=some c):=by
 simp only [uN]at h
 split at h
 .rename_i hu;cases h;exact YG ⟨by simp [lj,hu],0,rfl,λ_=>hu,λh=>(by omega),λh=>(by omega)⟩
 .rename_i q hu;cases h;exact YG ⟨by simp [lj,hu],1,rfl,λh=>(by omega),λ_=>⟨q,hu⟩,λh=>(by omega)⟩
 .rename_i hu;cases h;exact YG ⟨by simp [lj,hu],2,rfl,λh=>(by omega),λh=>(by omega),λ_=>hu⟩
 .rename_i fs hu
  split at h
  .cases h
  .have hf:P.fieldsOf t=fs:=by simp [Program.fieldsOf,hu]
   exact YE ⟨by simp [lj,hu],by simp_all,by simp_all,by simp_all⟩
 simp_all
theorem tc {m:M} {w:World}:∀ (d:Nat) (t:TypeId) (c:List Nat),uN P d t=some c->∀ (dd:Nat),d<=dd->∀ (cx cy:Value) (l l':List V) (b:Bool),Jv P c l l' b->l.length=c.length->l'.length=c.length->
 ((lj P t=some false->∃ v v':V,l=[v]/\l'=[v']/\VR m v cx/\VR m v' cy)/\(lj P t=some true->∃ xs ys,cx = .agg xs/\cy = .agg ys/\cj m l xs.toList/\cj m l' ys.toList))->(Op.equalIn dd t cx cy).run P w = .ok b w
 | 0,t,c,h,_,_,_,_,_,_,_,_,_,_,_=>by simp [uN]at h
 | d+1,t,c,h,0,hdd,_,_,_,_,_,_,_,_,_=>by omega
 | d+1,t,c,h,dd+1,hdd,cx,cy,l,l',b,heq,hl1,hl2,hv=>by
  rcases sS h with ⟨ha,q,rfl,h0,h1,h2⟩|⟨ha,hu,hs,hf⟩
  .obtain ⟨v,v',rfl,rfl,v1,v2⟩:=hv.1 ha
   obtain ⟨a,r1,a',r2,r,e1,e2,hl,g1,g2⟩:=heq
   cases e1;cases e2
   have hr:=hl m cx cy v1 v2 dd t w h0 h1 h2
   cases r with
   | true=>
    have:b=true:=g1 rfl
    grind
   | false=>grind
  .obtain ⟨xs,ys,rfl,rfl,v1,v2⟩:=hv.2 ha
   rw [run_equalIn_struct w dd t xs ys hu hs]
   clear h ha hu hs hv
   generalize (P.fieldsOf t).toList=fs at hf
   have key:∀ (fs:List Field) (off:Nat) (c:List Nat) (b:Bool),tU P (uN P d) fs off=some c->Jv P c (l.drop off) (l'.drop off) b->l.length=off+c.length->l'.length=off+c.length->(Op.eqFields dd xs ys fs).run P w = .ok b w:=by
    intro fs
    induction fs with
    | nil=>
     intro off c b hc he _ _
     simp only [tU,Option.some.injEq]at hc
     subst hc
     have:b=true:=he
     subst this
     simp [Op.eqFields]
    | cons f fs ih=>
     intro off c b hc he hle hle'
     simp only [tU]at hc
     split at hc
     .cases hc
     .rename_i hn
      split at hc
      .rename_i cf s r h1 h2 h3
       split at hc
       .rename_i h4
        cases hc
        rw [Bool.and_eq_true]at h4
        have hoff:f.offset=off:=by grind
        have hsz:s=cf.length:=by grind
        rw [h2]at h3
        simp only [Yn]at h3
        obtain ⟨b1,g1,g2,g3⟩:=Jv.split he
        have hn':f.name ≠ "_":=by grind
        have hd:∃ d',d=d'+1:=by
         cases d with
         | zero=>simp [uN]at h1
         | succ d'=>grind
        obtain ⟨d',rfl⟩:=hd
        have hpart:∃ p p',(part f.type xs f.offset).run P w = .ok p w/\(part f.type ys f.offset).run P w = .ok p' w/\(Op.equalIn dd f.type p p').run P w = .ok b1 w:=by
         rw [hoff]
         rcases sS h1 with ⟨ha,q,rfl,_⟩|⟨ha,_⟩
         .have g1':=g1
          obtain ⟨a,r1,a',r2,rr,e1,e2,_⟩:=g1'
          have e1':l[off]? = some a:=by
           have:=congrArg (λz=>z[0]?) e1
           grind
          have e2':l'[off]? = some a':=by
           have:=congrArg (λz=>z[0]?) e2
           grind
          obtain ⟨p,q1,q2⟩:=(fO (P:=P) (t:=f.type) (off:=off) v1 (w:=w)).2 a ha e1'
          obtain ⟨p',q3,q4⟩:=(fO (P:=P) (t:=f.type) (off:=off) v2 (w:=w)).2 a' ha e2'
          have hone:∀ (z:List V) (x:V) (r:List V),(z.drop off).take 1=x :: r->(z.drop off).take 1=[x]:=λz x r e=>by
           have hl:=congrArg Wo e
           grind
          exact ⟨p,p',q1,q3,tc (d'+1) f.type _ h1 dd (by omega) p p' _ _ b1 g1 ((congrArg Wo (hone _ _ _ e1)).trans rfl) ((congrArg Wo (hone _ _ _ e2)).trans rfl) ⟨λ_=>⟨a,a',hone _ _ _ e1,hone _ _ _ e2,q2,q4⟩,λh=>(by grind)⟩⟩
         .rw [YD]at hle hle'
          obtain ⟨p,q1,q2⟩:=(fO (P:=P) (t:=f.type) (off:=off) v1 (w:=w)).1 s ha h2 (by omega)
          obtain ⟨p',q3,q4⟩:=(fO (P:=P) (t:=f.type) (off:=off) v2 (w:=w)).1 s ha h2 (by omega)
          rw [hsz]at q2 q4
          exact ⟨_,_,q1,q3,tc (d'+1) f.type _ h1 dd (by omega) _ _ _ _ b1 g1 (by grind) (by grind) ⟨λh=>(by grind),λ_=>⟨_,_,rfl,rfl,q2,q4⟩⟩⟩
        obtain ⟨p,p',q1,q2,q3⟩:=hpart
        simp only [Op.eqFields,hn',ne_eq,not_false_eq_true,if_true,Sem.run_bind,q1,q2,q3,Result.andThen_ok]
        cases b1 with
        | true=>
         simp only [Bool.not_true,YU,if_false]
         rw [YD]at hle hle'
         refine ih _ r b h3 ?_ (by omega) (by omega)
         have:=g2 rfl
         rw [Qo,Qo]at this
         grind
        | false=>
         rw [g3 rfl]
         simp
       .cases hc
      .cases hc
   exact key fs 0 c b hf (by grind) (by omega) (by omega)
theorem wR:∀ l:List Nat,yU l=l.length
 | []=>rfl
 | a :: l=>by show WH (yU l)=_;rw [wR l];rfl
theorem vO {op} {xt yt} {x y} {x' y'} {c} (hop:o.op = .binOp op xt x y yt) (hx:aK nt x=some x') (hy:aK nt y=some y')
 (hrun:∀ (m) (w) (xs ys) (l l') (b),Jv P c l l' b->l.length=c.length->l'.length=c.length->cj m l xs.toList->cj m l' ys.toList->(Op.equalIn 10000 xt (.agg xs) (.agg ys)).run P w = .ok b w)
 (h:aN (iN P op xt c x' y') id ph e H k=1):Good P nt o e H k:=by
 have mem:x ∈ o.op.operands/\y ∈ o.op.operands:=by simp [hop,Op.operands]
 have hnd:∀ c,o.op ≠ .defer c:=by simp_all
 unfold iN at h
 split at h
 .exact (au h).elim
 rename_i hg
 have hg':P.eqGuardType P.depth xt=false:=by simp_all
 have key:∀ neg,(op=if neg then .neq else .eql)->FO c neg x' y' id ph e H k=1->Good P nt o e H k:=by
  intro neg hneg h'
  unfold FO at h'
  rw [ai]at h'
  obtain ⟨l,hl,h1⟩:=pN h'
  rw [ai]at h1
  obtain ⟨l',hl',h2⟩:=pN h1
  obtain ⟨h3,h4⟩:=aL h2
  obtain ⟨h5,h6⟩:=aL h4
  have e1:=cm h3
  have e2:=cm h5
  rw [iH,wR]at e1 e2
  obtain ⟨b,h7,h8⟩:=IV h6
  have h9:k (.bool (if neg then !b else b)) H=1:=by
   rcases bQ h7 with ⟨rfl,h10⟩|⟨rfl,h10⟩
   .rcases bQ h10 with ⟨rfl,h11⟩|⟨rfl,h11⟩<;>exact h11
   simp_all
  refine ⟨_,_,eM.bG hnd λm w ac ho=>?_,h9⟩
  have vx:=ho x mem.1 x' hx
  have vy:=ho y mem.2 y' hy
  rw [hl]at vx
  rw [hl']at vy
  obtain ⟨xs,hcx,v1⟩:=vx
  obtain ⟨ys,hcy,v2⟩:=vy
  have hr:=hrun m w xs ys l l' b h8 e1 e2 v1 v2
  refine ⟨.bool (if neg then !b else b),?_,by rfl⟩
  have hgr:=run_eqGuard_agg w op xt x y xs ys hg'
  simp only [execOp,hop,hcx,hcy,Sem.run_bind,hgr,Result.andThen_ok]
  cases neg with
  | true=>
   have:=run_neq_struct (P:=P) w xt xs ys
   simp_all
  | false=>
   have:=run_eql_struct (P:=P) w xt xs ys
   simp_all
 split at h
 .exact key false (by simp) h
 .exact key true (by simp) h
 .exact (au h).elim
theorem Fo {op} {xt yt} {x y} {x' y'} {fs} (hop:o.op = .binOp op xt x y yt) (hx:aK nt x=some x') (hy:aK nt y=some y') (hu:P.underlying xt=some (.struct fs))
 (h:aN (lO P op xt x' y') id ph e H k=1):Good P nt o e H k:=by
 unfold lO at h
 split at h
 rotate_left
 .exact (au h).elim
 rename_i c hc
 exact vO hop hx hy (λm w xs ys l l' b h8 e1 e2 v1 v2=>tc 4 xt c hc 10000 (by omega) (.agg xs) (.agg ys) l l' b h8 e1 e2 ⟨λh=>by simp [lj,hu]at h,λ_=>⟨xs,ys,rfl,rfl,v1,v2⟩⟩) h
theorem JU {xt el} {n q} (hu:P.underlying xt=some (.array n el)) (hc:uN P 1 el=some [q]) (hs:pV P el=some 1) (d) (m) (w) (xs ys) (l l') (b) (h:Jv P (YZ n q) l l' b)
 (hv:cj m l xs.toList) (hv':cj m l' ys.toList):(Op.equalIn (d+2) xt (.agg xs) (.agg ys)).run P w = .ok b w:=by
 rcases sS hc with ⟨ha,q',he,h0,h1,h2⟩|⟨_,_,_,hf⟩
 .cases he
  obtain ⟨i,hi,hsz⟩:=YY.1 hs
  have hcell:P.cellsOf el=1:=by simp [Program.cellsOf,hi,hsz]
  rw [run_equalIn_array w (d+1) xs ys hu hi,hcell,List.range_eq_range']
  have key:∀ (r j) (b),Jv P (YZ r q) (l.drop j) (l'.drop j) b->(Op.eqItems (d+1) el 1 xs ys (List.range' j r)).run P w = .ok b w:=by
   intro r
   induction r with
   | zero=>
    intro j b hb
    have:=hb
    subst this
    rfl
   | succ r ih=>
    intro j b hb
    obtain ⟨a,l1,a',l1',rr,e1,e2,hl,g1,g2⟩:=hb
    have ea:=by
     have:=congrArg (λz=>z[0]?) e1
     simpa using this
    have ea':=by
     have:=congrArg (λz=>z[0]?) e2
     simpa using this
    have et:l.drop (j+1)=l1:=by
     have:=congrArg (List.drop 1) e1
     rw [Qo]at this
     simp_all
    have et':l'.drop (j+1)=l1':=by
     have:=congrArg (List.drop 1) e2
     rw [Qo]at this
     simp_all
    obtain ⟨p,q1,q2⟩:=(fO hv (w:=w)).2 a ha ea
    obtain ⟨p',q3,q4⟩:=(fO hv' (w:=w)).2 a' ha ea'
    have q5:=hl m p p' q2 q4 d el w h0 h1 h2
    rw [List.range'_succ]
    simp only [Op.eqItems,WN,Sem.run_bind,q1,q3,q5,Result.andThen_ok]
    cases rr with
    | true=>
     grind
    | false=>
     simp_all
  grind
 .revert hf
  generalize (P.fieldsOf el).toList=fs
  intro hf
  cases fs with
  | nil=>simp [tU]at hf
  | cons f fs=>
   simp only [tU]at hf
   split at hf
   .cases hf
   .simp [uN]at hf
theorem Ft {op} {xt yt el} {n} {x y} {x' y'} (hop:o.op = .binOp op xt x y yt) (hx:aK nt x=some x') (hy:aK nt y=some y') (hu:P.underlying xt=some (.array n el))
 (h:aN (lP P op xt n el x' y') id ph e H k=1):Good P nt o e H k:=by
 unfold lP at h
 split at h
 .rename_i q hc hs
  exact vO hop hx hy (λm w xs ys l l' b h8 e1 e2 v1 v2=>JU hu hc hs 9998 m w xs ys l l' b h8 v1 v2) h
 .exact (au h).elim
theorem TD {op:BinOp} {xt yt:TypeId} {x y:Operand} (hop:o.op = .binOp op xt x y yt) (h:aN (af P nt o) id ph e H k=1):Good P nt o e H k:=by
 simp only [af,hop]at h
 have mem:x ∈ o.op.operands/\y ∈ o.op.operands:=by simp [hop,Op.operands]
 split at h
 rotate_left
 .exact (au h).elim
 rename_i x' y' hx hy
 have hnd:∀ c,o.op ≠ .defer c:=by simp [hop]
 have hex:∀ (ac:Act) (w:World),(execOp ac.eval o).run P w=((do eqGuard op xt x y (ac.eval x) (ac.eval y);binOp op xt (ac.eval x) (ac.eval y):Sem Value).run P w).andThen λv w'=>.ok (.value v) w':=by
  intro ac w
  simp only [execOp,hop,Sem.run_bind,Sem.run_pure]
 unfold pt at h
 split at h
 .rename_i kx hu
  split at h
  .rename_i f hf
   have h':V8 (lB kx) f x' y' id ph e H k=1:=h
   unfold V8 at h'
   rw [ai]at h'
   obtain ⟨k1,a,ha,h1⟩:=dE h'
   rw [ai]at h1
   obtain ⟨k2,b,hb,h2⟩:=dE h1
   obtain ⟨h3,h4⟩:=aL h2
   obtain ⟨h5,h6⟩:=aL h4
   have e3:=cm h3
   have e5:=cm h5
   subst e3 e5
   have h7:k (.bool (dN f a b)) H=1:=by
    rcases bQ h6 with ⟨h8,h9⟩|⟨h8,h9⟩<;>rw [h8]<;>exact h9
   refine ⟨_,_,eM.bG hnd λm w ac ho=>?_,h7⟩
   have vx:=ho x mem.1 x' hx
   have vy:=ho y mem.2 y' hy
   rw [ha]at vx
   rw [hb]at vy
   simp only [VR,dJ]at vx vy
   refine ⟨.bool (dN f a b),?_,by simp only [VR]⟩
   rw [hex,vx.1,vy.1,Sem.run_bind,np]
   simp only [Result.andThen_ok,aaD hf vx.2.1 vy.2.1]
  .split at h
   .rename_i f hf
    have key:∀ ky:IntKind,((rK op=false/\ky=kx)\/(rK op=true/\(ky.signed=true->ky.bits=64)))->JO (lB kx) (lB ky) f x' y' id ph e H k=1->Good P nt o e H k:=by
     intro ky hky h'
     obtain ⟨a,b,ha,hb,h1⟩:=AI h'
     obtain ⟨r,h2,h3⟩:=L6 (P:=P) (t:=xt) (op:=op) (k:=kx) (ky:=ky) hf hky h1
     refine ⟨_,_,eM.bG hnd λm w ac ho=>?_,h2⟩
     have vx:=ho x mem.1 x' hx
     have vy:=ho y mem.2 y' hy
     rw [ha]at vx
     rw [hb]at vy
     simp only [VR,dJ]at vx vy
     obtain ⟨h4,h5⟩:=h3 vx.2.1 vy.2.1
     refine ⟨.int kx (toI kx r),?_,by simp only [VR,dJ];exact ⟨trivial,h4,wO kx⟩⟩
     rw [hex,vx.1,vy.1,Sem.run_bind,np]
     simp only [Result.andThen_ok,h5 w]
    split at h
    .rename_i hs
     split at h
     .rename_i ky hky
      split at h
      .rename_i hok
       exact key ky (YE ⟨hs,λhsg=>by simpa [abO,hsg] using hok⟩) h
      .exact (au h).elim
     .exact (au h).elim
    .rename_i hs
     exact key kx (YG ⟨by simpa using hs,rfl⟩) h
   .exact (au h).elim
 .have strs:∀ (m:M) (ac:Act),OR m nt e ac o->∀ l1 n1 l2 n2,aA x' e = .str l1 n1->aA y' e = .str l2 n2->
   ac.eval x = .string ⟨(aC l1 n1).toArray⟩/\n1<256 ^ l1/\ac.eval y = .string ⟨(aC l2 n2).toArray⟩/\n2<256 ^ l2:=by
   intro m ac ho l1 n1 l2 n2 e1 e2
   have vx:=ho x mem.1 x' hx
   have vy:=ho y mem.2 y' hy
   rw [e1]at vx
   rw [e2]at vy
   simp only [VR]at vx vy
   exact ⟨vx.1,vx.2,vy.1,vy.2⟩
  have cmp:∀ neg:Bool,(op=if neg then .neq else .eql)->NH neg x' y' id ph e H k=1->Good P nt o e H k:=by
   intro neg hneg h'
   unfold NH at h'
   rw [ai]at h'
   obtain ⟨l1,n1,h1,h2⟩:=ek h'
   rw [ai]at h2
   obtain ⟨l2,n2,h3,h4⟩:=ek h2
   have h5:k (.bool (if neg then !(decide (l1=l2) && YL n1 n2) else (decide (l1=l2) && YL n1 n2))) H=1:=by
    rcases bQ h4 with ⟨h5,h6⟩|⟨h5,h6⟩
    .have:=cm h5
     subst this
     rcases bQ h6 with ⟨h7,h8⟩|⟨h7,h8⟩<;>rw [h7]<;>cases neg<;>simp<;>exact h8
    .rw [eS]at h5
     rw [h5]
     cases neg<;>simp<;>exact h6
   refine ⟨_,_,eM.bG hnd λm w ac ho=>?_,h5⟩
   obtain ⟨v1,v2,v3,v4⟩:=strs m ac ho l1 n1 l2 n2 h1 h3
   refine ⟨.bool (if neg then !(decide (l1=l2) && YL n1 n2) else (decide (l1=l2) && YL n1 n2)),?_,by simp only [VR]⟩
   rw [hex,v1,v3,Sem.run_bind,nr]
   have hq:((⟨(aC l1 n1).toArray⟩:ByteArray).toList == (⟨(aC l2 n2).toArray⟩:ByteArray).toList)=(decide (l1=l2) && YL n1 n2):=by
    by_cases hl:l1=l2
    .subst hl
     rw [Y4 v2 v4];simp
    .rw [decide_eq_false hl,QO]
     simp only [beq_eq_false_iff_ne,ne_eq,ByteArray.toList_eq]
     intro he
     have:=congrArg Wo he
     simp [aM]at this
     exact hl this
   subst hneg
   cases neg
   .simp only [Result.andThen_ok,YU,if_false,binOp,Op.stringOp,hq,Sem.run_pure]
   .simp only [Result.andThen_ok,if_true,binOp,Op.stringOp,hq,Sem.run_pure]
  split at h
  .have h':CV x' y' id ph e H k=1:=h
   unfold CV at h'
   rw [ai]at h'
   obtain ⟨l1,n1,h1,h2⟩:=ek h'
   rw [ai]at h2
   obtain ⟨l2,n2,h3,h4⟩:=ek h2
   rw [ay]at h4
   obtain ⟨h5,h6⟩:=aL h4
   rw [ay]at h6
   refine ⟨_,_,eM.bG hnd λm w ac ho=>?_,h6⟩
   obtain ⟨v1,v2,v3,v4⟩:=strs m ac ho l1 n1 l2 n2 h1 h3
   have hlt:l1+l2<9223372036854775808:=er h5
   have e1:YX n1 (Yp n2 (Yg 8 l1))=n1+256 ^ l1*n2:=by
    show n1+n2 <<< (8*l1)=_
    rw [Qd,QE,Wl]
   have hbig:¬ ((((l1+l2:Nat):Int))>IntKind.i64.max):=by simp [IntKind.max,IntKind.signed,IntKind.bits];omega
   refine ⟨.string ⟨(aC (l1+l2) (n1+256 ^ l1*n2)).toArray⟩,?_,?_⟩
   .rw [hex,v1,v3,Sem.run_bind,nr]
    have hs1:(⟨(aC l1 n1).toArray⟩:ByteArray).size=l1:=by simp [ByteArray.size,aM]
    have hs2:(⟨(aC l2 n2).toArray⟩:ByteArray).size=l2:=by simp [ByteArray.size,aM]
    have happ:(⟨(aC l1 n1).toArray⟩:ByteArray) ++ (⟨(aC l2 n2).toArray⟩:ByteArray)=⟨(aC (l1+l2) (n1+256 ^ l1*n2)).toArray⟩:=by
     apply Go.WideShapes.bytes_inj
     rw [eP _ _ _ _ v2]
     simp [ByteArray.data_append]
    simp only [Result.andThen_ok,binOp,Op.stringOp,hs1,hs2,if_neg hbig,happ,Sem.run_pure]
   .rw [e1]
    simp only [VR]
    refine ⟨rfl,?_⟩
    show n1+256 ^ l1*n2<256 ^ (l1+l2)
    rw [YF3]
    calc n1+256 ^ l1*n2<256 ^ l1+256 ^ l1*n2:=by omega
     _=256 ^ l1*(n2+1):=by rw [Nat.mul_add,WN,Nat.add_comm]
     _<=256 ^ l1*256 ^ l2:=Qs _ v4
  .exact cmp false (by simp) h
  .exact cmp true (by simp) h
  .exact (au h).elim
 .rename_i hu;exact lT hop hx hy (YG ⟨rfl,hu⟩) (λe5=>by cases e5) h
 .rename_i hu;exact lT hop hx hy (YE (YG ⟨rfl,_,hu⟩)) (λe5=>by cases e5) h
 .rename_i hu;exact lT hop hx hy (YE (YE (YG ⟨rfl,_,hu⟩))) (λe5=>by cases e5) h
 .rename_i hu;exact lT hop hx hy (YE (YE (YE (YG ⟨rfl,_,_,hu⟩)))) (λe5=>by cases e5) h
 .rename_i hu;exact lT hop hx hy (YE (YE (YE (YE (YG ⟨rfl,_,_,_,hu⟩))))) (λe5=>by cases e5) h
 .rename_i hu
  split at h
  .rename_i hi
   exact lT hop hx hy (YE (YE (YE (YE (YE ⟨rfl,_,hu⟩))))) (λ_=>by simpa using hi) h
  .exact (au h).elim
 .rename_i fs hu;exact Fo hop hx hy hu h
 .rename_i n el hu;exact Ft hop hx hy hu h
 .exact (au h).elim
 .exact (au h).elim
end
end Go.Ev
end

