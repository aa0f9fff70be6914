/- EvA: a part of the evaluator,of its logic,or of the laws' walk in it. -/
import Derived.Below
import Derived.Calls
import Derived.CallsIn
import Derived.OrdersIn
import Derived.RangeFuncRecord
import Derived.Orders
import Derived.Laws.Sem
import Derived.Laws.Entries
import Derived.KernelRfl
import Derived.Laws.Cells
import Derived.TacticsIn
import Derived.Lib.Strings
import Derived.Laws.Strings
import Derived.WideShapes
import Derived.Laws.StructEq
import Derived.ChangeKeysEq
open Nat renaming le_refl → YA,lt_of_lt_of_le → YE,beq → YK,ble → YS,add → YW,zero_le → Yd,lt_or_ge → Yf,mul → Yh,le_trans → Yn,shiftLeft → Yq,mod_eq_of_lt → Yr,mod → Ys,blt → Yy,shiftRight → Yz,shiftRight_eq_div_pow → WA,succ → WI,mul_one → WO,ble_eq_true_of_le → WS,div → Wf,lt_of_le_of_lt → Wk,mul_comm → Wl,sub → Wv,and_two_pow_sub_one_eq_mod → QC,pow_mul → QE,min_eq_left → QK,pow_succ → QM,le_of_lt → QN,ne_of_lt → QV,mod_lt → Qa,shiftLeft_eq → Qe,le_of_ble_eq_true → Qn,min_eq_right → Qr,mul_le_mul_left → Qs,land → Qu,pow → YA3,div_lt_of_lt_mul → YC3,mod_mul_right_div_self → YD3,pow_add → YF1,div_div_eq_div_mul → YH1,div_le_self → YI2,xor → YM2,and_le_left → YO2
open List renaming getElem?_eq_getElem → YB,length_append → YC,length_cons → YF,mem_cons_of_mem → YI,mem_cons_self → YJ,mem_cons → YP,mem_of_getElem? → YY,cons_append → Yb,map_cons → Ye,replicate → Yg,getElem?_map → Yj,getElem?_take → Yk,getElem?_append_left → Ym,getElem?_append_right → Yt,getElem?_drop → Yx,range → WT,length → Wm,getElem?_of_mem → QF,map_take → QZ,getElem?_cons_succ → Qd,drop_drop → Qg,map_drop → YC1
open Or renaming inr → YD,inl → YG
open Array renaming getElem?_eq_some_iff → YL,getElem?_toList → Yo,getElem?_modify → Wj
open Bool renaming false_eq_true → YN,false_and → Qf,true_and → YL2
open Option renaming map_eq_some_iff → YZ,getD_some → WH
open Int renaming toNat_natCast → Qp,fdiv_eq_ediv_of_nonneg → YD4,emod_eq_of_lt → YF2,mul_emod → YH2
open Prod renaming rec → YG2
set_option linter.unusedVariables false
set_option linter.unusedSimpArgs false
set_option linter.unusedSectionVars false
section
namespace Go.Ev
open Go.RowKit
abbrev R:=Nat
def no (c:Nat):R:=c+2
theorem au {c:Nat} (h:no c=1):False:=by
 have h':c+2=1:=h
 omega
inductive V where
 | int (k n:Nat)
 | bool (b:Bool)
 | str (len n:Nat)
 | ptr (b off:Nat)
 | jk
 | slice (b off len cap sz:Nat)
 | aB
 | map (b:Nat)
 | xd
 | func (f:Nat) (caps:List V)
 | sK (b:Nat)
 | tz
 | iface (t:Nat) (v:V)
 | Eb
 | agg (l:List V)
 | cV (l:List V)
def lF:IntKind->Nat
 | .i8=>0 | .i16=>1 | .i32=>2 | .i64=>3 | .u8=>4 | .u16=>5 | .u32=>6 | .u64=>7
def oG:Nat->IntKind
 | 0=>.i8 | 1=>.i16 | 2=>.i32 | 3=>.i64 | 4=>.u8 | 5=>.u16 | 6=>.u32 | _=>.u64
theorem dH (k:IntKind):oG (lF k)=k:=by cases k<;>rfl
theorem wO (k:IntKind):lF k<8:=by cases k<;>decide
inductive I8 where
 | i0 | i1 | i2 | i3 | i4 | i5 | i6 | i7
 deriving DecidableEq
inductive N8 (α:Type) where
 | mk (a0 a1 a2 a3 a4 a5 a6 a7:α)
abbrev Env:=N8 (N8 (N8 V))
inductive Slot where
 | mk (a b c:I8)
 deriving DecidableEq
inductive Arg where
 | s (s:Slot)
 | c (v:V)
inductive BF where
 | add (m:Nat) | sub (m:Nat) | mul (m:Nat) | aez | bor | W3 | aaj (m:Nat) | shl (m bits:Nat) | shr (half bits:Nat) | quo (half:Nat) | rem (half:Nat)
inductive CF where
 | eq | ne | lt (o m:Nat) | le (o m:Nat) | gt (o m:Nat) | ge (o m:Nat)
inductive kV where
 | bad
 | iV (x:Arg)
 | pick (c x y:Arg)
 | oT (z:List V)
 | XU (n:Nat)
 | box (x:Arg)
 | build (zero:List V) (parts:List (Nat × Nat × Arg))
 | jP (u8:Bool) (len:Nat) (zero:List V) (parts:List (Nat × Nat × Arg))
 | cS (a:Arg)
 | dx (n:Nat) (a:Arg)
 | eX (a x:Arg)
 | gX (n:Nat) (a x:Arg)
 | OB (x:Arg)
 | bin (kd ky:Nat) (f:BF) (x y:Arg)
 | cmp (kd:Nat) (f:CF) (x y:Arg)
 | Pq (x y:Arg)
 | Pt (neg:Bool) (x y:Arg)
 | eqv (kc:Nat) (neg:Bool) (x y:Arg)
 | Oh (x:Arg)
 | qi (src dst mode c:Nat) (x:Arg)
 | I9 (x:Arg)
 | Ja (x:Arg)
 | mkI (t:Nat) (x:Arg)
 | mkF (f:Nat) (caps:List Arg)
 | mkMap
 | mkSlice (u8:Bool) (zero:List V) (l c:Arg)
 | slS (x:Arg) (lo hi:Option Arg)
 | slV (size:Nat) (x:Arg) (lo hi mx:Option Arg)
 | Z0 (n size:Nat) (x:Arg) (lo hi mx:Option Arg)
 | lY (off:Nat) (x:Arg)
 | Xz (off:Nat) (x:Arg)
 | Te (off n:Nat) (x:Arg)
 | ZV (len size:Nat) (x i:Arg)
 | tq (size:Nat) (x i:Arg)
 | ixS (x i:Arg)
 | ixG (len size:Nat) (agg:Bool) (x i:Arg)
 | look (ks:Bool) (zero:V) (ok:Bool) (m x:Arg)
 | XT (ks:Bool) (m x y:Arg)
 | afh (ks:Bool) (m x:Arg)
 | NJ (x:Arg) (i:Nat)
 | call (f:Nat) (args:List Arg)
 | MS (x:Arg) (args:List Arg)
 | app (u8:Bool) (size:Nat) (s x:Arg)
 | copy (size:Nat) (d s:Arg)
 | ab0 (x:Arg)
 | dL (x:Arg)
 | KG (x:Arg)
 | cap (x:Arg)
 | mm (kd o m:Nat) (mx:Bool) (x y:Arg)
 | kX (cls:List Nat) (neg:Bool) (x y:Arg)
 | mm3 (kd o m:Nat) (mx:Bool) (x y z:Arg)
 | tas (t:Nat) (x:Arg)
inductive Cc where
 | mk (id:Nat) (dst:Option Slot) (guard:Option (Slot × Bool)) (cls:Nat) (op:kV)
inductive uD where
 | mk (id:Nat) (dst:Option Slot) (guard:Option (Slot × Bool)) (tag i bf:Nat) (ad:Arg) (op:kV)
inductive RC where
 | mk (nt fid:Nat) (c:Code)
inductive ai where
 | bad
 | skip
 | uu (ops:List Cc)
 | nG (ops:List Cc)
 | XA (ops:List uD)
 | ZK (ops:List uD)
 | seq (a b:ai)
 | cond (c:Arg) (a b:ai)
 | block (id:Nat) (a:ai)
 | loop (a:ai)
 | exit (id:Nat)
 | ret
 | kz (g:Arg) (ps:List Slot) (assign body:RC)
 | Bz (g:Arg) (ps:List Slot) (assign body:RC)
inductive RV where
 | tmp (s:Slot)
 | CO (s:Slot)
 | lP (s:Slot) (n:Nat)
def d8:Nat->I8
 | 0=>.i0 | 1=>.i1 | 2=>.i2 | 3=>.i3 | 4=>.i4 | 5=>.i5 | 6=>.i6 | _=>.i7
def aX (t:Nat):Slot:=.mk (d8 (t/64)) (d8 (t/8%8)) (d8 (t%8))
def enc:List UInt8->Nat
 | []=>0
 | x :: l=>x.toNat+256 * enc l
def mJ:Value->Option V
 | .bool b=>some (.bool b)
 | .int k n=>if k.wrap n == n then some (.int (lF k) (n % (2 ^ k.bits:Nat)).toNat) else none
 | .string s=>some (.str s.data.toList.length (enc s.data.toList))
 | .pointer none=>some .jk
 | .slice none 0 0=>some .aB
 | .map none=>some .xd
 | .nilFunc=>some .tz
 | .nilIface=>some .Eb
 | _=>none
def consts:List Value->Option (List V)
 | []=>some []
 | v :: l=>match mJ v,consts l with
  | some u,some r=>some (u :: r)
  | _,_=>none
def AA:Value->Option V
 | .agg cs=>(consts cs.toList).map .agg
 | .tuple cs=>(consts cs.toList).map .cV
 | v=>mJ v
def aJ (nt:Nat):Operand->Option Arg
 | .tmp t=>if t<nt then some (.s (aX t)) else none
 | .const v=>(AA v).map .c
 | .func f=>some (.c (.func (2 * f) []))
 | .global _=>none
def bP (nt:Nat):List Operand->Option (List Arg)
 | []=>some []
 | x :: l=>match aJ nt x,bP nt l with
  | some a,some r=>some (a :: r)
  | _,_=>none
section
variable (P:Program) (nt:Nat)
def kindOf (t:TypeId):Option IntKind:=match P.underlying t with
 | some (.int k)=>some k
 | _=>none
def DD (t:TypeId):Bool:=match P.underlying t with
 | some (.int .u8)=>true
 | _=>false
def lB (t:TypeId):Option Bool:=match P.underlying t with
 | some (.struct _) | some (.array _ _)=>some true
 | some _=>some false
 | none=>none
def qe (t:TypeId):Option Nat:=(P.info? t).map (·.size)
def qw (t:TypeId):Option (List V):=match P.info? t with
 | some i=>match i.zero with
  | some z=>consts z.cells.toList
  | none=>none
 | none=>none
def zeroV (t:TypeId):Option V:=match P.info? t with
 | some i=>match i.zero with
  | some z=>AA z
  | none=>none
 | none=>none
def half (k:IntKind):Nat:=if k.signed then 2 ^ (k.bits-1) else 2 ^ k.bits
def fp (k:IntKind):Nat:=if k.signed then 2 ^ (k.bits-1) else 0
def V2 (op:BinOp) (k:IntKind):Option BF:=match op with
 | .add=>some (.add (2 ^ k.bits))
 | .sub=>some (.sub (2 ^ k.bits))
 | .mul=>some (.mul (2 ^ k.bits))
 | .and=>some .aez
 | .or=>some .bor
 | .xor=>some .W3
 | .andNot=>some (.aaj (2 ^ k.bits))
 | .shl=>some (.shl (2 ^ k.bits) k.bits)
 | .shr=>some (.shr (half k) k.bits)
 | .quo=>some (.quo (half k))
 | .rem=>some (.rem (half k))
 | _=>none
def Xg (op:BinOp) (k:IntKind):Option CF:=match op with
 | .eql=>some .eq
 | .neq=>some .ne
 | .lss=>some (.lt (fp k) (2 ^ k.bits))
 | .leq=>some (.le (fp k) (2 ^ k.bits))
 | .gtr=>some (.gt (fp k) (2 ^ k.bits))
 | .geq=>some (.ge (fp k) (2 ^ k.bits))
 | _=>none
def rX:BinOp->Bool
 | .shl | .shr=>true
 | _=>false
def acd (k:IntKind):Bool:=!k.signed || k.bits == 64
def isC:Arg->Bool
 | .c _=>true
 | .s _=>false
def nh (kc:Nat) (op:BinOp) (x y:Arg):kV:=match op with
 | .eql=>.eqv kc false x y
 | .neq=>.eqv kc true x y
 | _=>.bad
def tU (rc:TypeId->Option (List Nat)):List Field->Nat->Option (List Nat)
 | [],_=>some []
 | f :: l,off=>if f.name == "_" then none else match rc f.type,qe P f.type,tU rc l (off+(qe P f.type).getD 0) with
  | some c,some s,some r=>if f.offset == off && s == c.length then some (c ++ r) else none
  | _,_,_=>none
def uE:Nat->TypeId->Option (List Nat)
 | 0,_=>none
 | d+1,t=>match P.underlying t with
  | some .bool=>some [0]
  | some (.int _)=>some [1]
  | some .string=>some [2]
  | some (.struct fs)=>if P.stoodInHeld t then none else tU P (uE d) fs.toList 0
  | _=>none
def iQ (op:BinOp) (t:TypeId) (c:List Nat) (x y:Arg):kV:=if P.eqGuardType P.depth t then .bad else match op with
 | .eql=>.kX c false x y
 | .neq=>.kX c true x y
 | _=>.bad
def lR (op:BinOp) (t:TypeId) (x y:Arg):kV:=match uE P 4 t with
 | some c=>iQ P op t c x y
 | none=>.bad
def lS (op:BinOp) (t:TypeId) (n:Nat) (el:TypeId) (x y:Arg):kV:=match uE P 1 el,qe P el with
 | some [q],some 1=>iQ P op t (Yg n q) x y
 | _,_=>.bad
def pF (op:BinOp) (xt yt:TypeId) (x y:Arg):kV:=match P.underlying xt with
 | some (.int k)=>match Xg op k with
  | some f=>.cmp (lF k) f x y
  | none=>match V2 op k with
   | some f=>if rX op then (match kindOf P yt with | some ky=>if acd ky then .bin (lF k) (lF ky) f x y else .bad | none=>.bad) else .bin (lF k) (lF k) f x y
   | none=>.bad
 | some .string=>match op with
  | .add=>.Pq x y
  | .eql=>.Pt false x y
  | .neq=>.Pt true x y
  | _=>.bad
 | some .bool=>nh 0 op x y
 | some (.pointer _)=>nh 1 op x y
 | some (.slice _)=>nh 2 op x y
 | some (.map _ _)=>nh 3 op x y
 | some (.func _ _ _)=>nh 4 op x y
 | some (.interface _)=>if isC x || isC y then nh 5 op x y else .bad
 | some (.struct _)=>lR P op xt x y
 | some (.array n el)=>lS P op xt n el x y
 | some _=>.bad
 | none=>.bad
def sZ (k k':IntKind) (x:Arg):kV:=
 if k.signed && k.bits<k'.bits then .qi (lF k) (lF k') (2 ^ (k.bits-1)) (2 ^ k'.bits-2 ^ k.bits) x
 else .qi (lF k) (lF k') 0 (2 ^ k'.bits) x
def JH (fs:Array Field):Option (List (Nat × Nat)):=fs.toList.mapM λf=>(P.info? f.type).map λi=>(f.offset,i.size)
def jV (pl:List (Nat × Nat)):List (Nat × Arg)->Option (List (Nat × Nat × Arg))
 | []=>some []
 | (i,a):: l=>match pl[i]?,jV pl l with
  | some p,some r=>some ((p.1,p.2,a):: r)
  | _,_=>none
def pI (s:Nat) (l:List (Nat × Arg)):List (Nat × Nat × Arg):=l.map λp=>(p.1*s,s,p.2)
def ee:List (Nat × Operand)->Option (List (Nat × Arg))
 | []=>some []
 | (i,x):: l=>match aJ nt x,ee l with
  | some a,some r=>some ((i,a):: r)
  | _,_=>none
def Hr:Option Operand->Option (Option Arg)
 | none=>some none
 | some x=>(aJ nt x).map some
def gU:Nat->List V->List V
 | 0,_=>[]
 | n+1,l=>l ++ gU n l
def KA (t:TypeId):Option Bool:=match P.underlying t with
 | some (.int _)=>some false
 | some .string=>some true
 | _=>none
def z8:List V->Bool
 | []=>true
 | .int 4 0 :: l=>z8 l
 | _=>false
def XQ (t:TypeId):Bool:=match P.underlying t with
 | some .string | some (.slice _) | some (.map _ _)=>true
 | _=>false
def tL (t:TypeId):Option TypeId:=match P.underlying t with
 | some (.slice e)=>some e
 | _=>none
def ZM (t:TypeId) (s:Nat):Bool:=match qw P t with
 | some z=>z.length == s
 | none=>false
def df (b:Builtin) (asL:List Operand) (ts:List TypeId):kV:=match b with
 | .len=>(match bP nt asL,ts with
  | some [x],t :: _=>(match P.underlying t with
   | some .string=>.ab0 x
   | some (.slice _)=>.dL x
   | some (.map _ _)=>.KG x
   | _=>.bad)
  | _,_=>.bad)
 | .cap=>(match bP nt asL,ts with
  | some [x],t :: _=>(match tL P t with | some _=>.cap x | none=>.bad)
  | _,_=>.bad)
 | .append=>(match bP nt asL,ts with
  | some [s,x],[st,xt]=>(match tL P st with
   | some e=>(match qe P e,P.info? e with
    | some s',some i=>if 0<s' && i.bytes<=65536 && ZM P e s' && XQ P xt then .app (DD P e && s' == 1) s' s x else .bad
    | _,_=>.bad)
   | none=>.bad)
  | _,_=>.bad)
 | .copy=>(match bP nt asL,ts with
  | some [d,s],dt :: _=>(match tL P dt with
   | some e=>(match qe P e with | some s'=>.copy s' d s | none=>.bad)
   | none=>.bad)
  | _,_=>.bad)
 | .delete=>(match bP nt asL,ts with
  | some [m,x],mt :: _=>(match P.underlying mt with
   | some (.map kt _)=>(match KA P kt with
    | some ks=>.afh ks m x
    | none=>.bad)
   | _=>.bad)
  | _,_=>.bad)
 | .max=>(match bP nt asL,ts with
  | some [x,y],t :: _=>(match kindOf P t with | some k=>.mm (lF k) (fp k) (2 ^ k.bits) true x y | none=>.bad)
  | some [x,y,z],t :: _=>(match kindOf P t with | some k=>.mm3 (lF k) (fp k) (2 ^ k.bits) true x y z | none=>.bad)
  | _,_=>.bad)
 | .min=>(match bP nt asL,ts with
  | some [x,y],t :: _=>(match kindOf P t with | some k=>.mm (lF k) (fp k) (2 ^ k.bits) false x y | none=>.bad)
  | some [x,y,z],t :: _=>(match kindOf P t with | some k=>.mm3 (lF k) (fp k) (2 ^ k.bits) false x y z | none=>.bad)
  | _,_=>.bad)
 | _=>.bad
def af (o:Oper):kV:=
 match o.op with
 | .move x | .assign x=>match aJ nt x with | some a=>.iV a | none=>.bad
 | .pick c x y=>match aJ nt c,aJ nt x,aJ nt y with | some c,some a,some b=>.pick c a b | _,_,_=>.bad
 | .alloc t=>match qw P t,P.underlying t with
  | some z,some (.array n _)=>if z8 z && z.length == n then .XU n else .oT z
  | some z,some _=>.oT z
  | _,_=>.bad
 | .box _ x=>match aJ nt x with | some a=>.box a | none=>.bad
 | .build t parts=>match qw P t,ee nt parts.toList,P.underlying t with
  | some z,some ps,some (.struct fs)=>match JH P fs with | some pl=>(match jV pl ps with | some q=>.build z q | none=>.bad) | none=>.bad
  | some z,some ps,some (.array _ e)=>match qe P e with | some s=>.build z (pI s ps) | none=>.bad
  | _,_,_=>.bad
 | .buildSlice t len parts=>match ee nt parts.toList,P.underlying t with
  | some ps,some (.slice e)=>match qe P e,qw P e with
   | some s,some z=>if len * s<=1024 && z.length == s then .jP (DD P e && 0<len) len (gU len z) (pI s ps) else .bad
   | _,_=>.bad
  | _,_=>.bad
 | .load t a=>match aJ nt a,lB P t,qe P t with
  | some a,some true,some n=>.dx n a
  | some a,some false,_=>.cS a
  | _,_,_=>.bad
 | .store t a x=>match aJ nt a,aJ nt x,lB P t,qe P t with
  | some a,some x,some true,some n=>.gX n a x
  | some a,some x,some false,some 1=>.eX a x
  | _,_,_,_=>.bad
 | .nilCheck x=>match aJ nt x with | some a=>.OB a | none=>.bad
 | .binOp op xt x y yt=>match aJ nt x,aJ nt y with | some x,some y=>pF P op xt yt x y | _,_=>.bad
 | .unOp op xt x=>match aJ nt x,op with
  | some x,.not=>.Oh x
  | some x,.neg=>match kindOf P xt with | some k=>.bin (lF k) (lF k) (.sub (2 ^ k.bits)) (.c (.int (lF k) 0)) x | none=>.bad
  | some x,.xor=>match kindOf P xt with | some k=>.bin (lF k) (lF k) .W3 (.c (.int (lF k) (2 ^ k.bits-1))) x | none=>.bad
  | _,_=>.bad
 | .convert s d x=>match aJ nt x,P.underlying s,P.underlying d with
  | some x,some (.int k),some (.int k')=>sZ k k' x
  | some x,some (.slice e),some .string=>if DD P e then .I9 x else .bad
  | some x,some .string,some (.slice e)=>if DD P e then .Ja x else .bad
  | some x,some .string,some .string=>.Pq x (.c (.str 0 0))
  | _,_,_=>.bad
 | .makeInterface t x=>match aJ nt x,P.underlying t with
  | some _,some (.interface _)=>.bad
  | some x,some _=>.mkI t x
  | _,_=>.bad
 | .typeAssert x _ t ok=>match ok,aJ nt x,P.underlying t with
  | true,some _,some (.interface _)=>.bad
  | true,some x,some _=>.tas t x
  | _,_,_=>.bad
 | .makeFunc (.func f) first caps=>match first.toList,bP nt caps.toList with
  | [],some l=>.mkF (2 * f) l
  | q :: qs,some []=>match bP nt (q :: qs) with | some l=>.mkF (2 * f+1) l | none=>.bad
  | _,_=>.bad
 | .makeMap _ none=>.mkMap
 | .makeSlice t l c=>match aJ nt l,aJ nt c,P.underlying t with
  | some l,some c,some (.slice e)=>match qw P e,qe P e,P.info? e with
   | some z,some s,some i=>if z.length == s && 0<s && i.bytes<=65536 then .mkSlice (z8 z && s == 1) z l c else .bad
   | _,_,_=>.bad
  | _,_,_=>.bad
 | .slice t x lo hi mx=>match aJ nt x,Hr nt lo,Hr nt hi,Hr nt mx with
  | some x,some lo,some hi,some mx=>match P.underlying t with
   | some .string=>match mx with | none=>.slS x lo hi | some _=>.bad
   | some (.slice e)=>match qe P e with | some s=>(match hi,mx with | none,some _=>.bad | _,_=>.slV s x lo hi mx) | none=>.bad
   | some (.array n e)=>match qe P e with | some s=>(match hi,mx with | none,some _=>.bad | _,_=>.Z0 n s x lo hi mx) | none=>.bad
   | _=>.bad
  | _,_,_,_=>.bad
 | .fieldAddr t x f=>match aJ nt x,P.underlying t with
  | some x,some (.struct fs)=>match fs[f]? with
   | some fd=>match qe P fd.type with | some (_+1)=>.lY fd.offset x | _=>.bad
   | none=>.bad
  | _,_=>.bad
 | .field t x f=>match aJ nt x,P.underlying t with
  | some x,some (.struct fs)=>match fs[f]? with
   | some fd=>match lB P fd.type,qe P fd.type with
    | some true,some n=>.Te fd.offset n x
    | some false,some _=>.Xz fd.offset x
    | _,_=>.bad
   | none=>.bad
  | _,_=>.bad
 | .indexAddr t x i=>match aJ nt x,aJ nt i,P.underlying t with
  | some x,some i,some (.array len e)=>match qe P e with | some s=>.ZV len s x i | none=>.bad
  | some x,some i,some (.slice e)=>match qe P e with | some s=>.tq s x i | none=>.bad
  | _,_,_=>.bad
 | .index t x i=>match aJ nt x,aJ nt i,P.underlying t with
  | some x,some i,some .string=>.ixS x i
  | some x,some i,some (.array len e)=>match qe P e,lB P e with | some s,some b=>.ixG len s b x i | _,_=>.bad
  | _,_,_=>.bad
 | .lookup t m x ok=>match aJ nt m,aJ nt x,P.underlying t with
  | some m,some x,some (.map kt e)=>match zeroV P e,KA P kt with
   | some z,some ks=>.look ks z ok m x
   | _,_=>.bad
  | _,_,_=>.bad
 | .mapUpdate t m x y | .insert t m x y=>match aJ nt m,aJ nt x,aJ nt y,P.underlying t with
  | some m,some x,some y,some (.map kt _)=>match KA P kt with
   | some ks=>.XT ks m x y
   | none=>.bad
  | _,_,_,_=>.bad
 | .extract x i=>match aJ nt x with | some x=>.NJ x i | none=>.bad
 | .call {callee:=.value (.func f),args,argTypes:=_ }=>match bP nt args.toList,P.funcs[f]? with
  | some l,some _=>.call (2 * f) l
  | _,_=>.bad
 | .call {callee:=.value (.tmp t),args,argTypes:=_ }=>match aJ nt (.tmp t),bP nt args.toList with | some x,some l=>.MS x l | _,_=>.bad
 | .call {callee:=.builtin b,args,argTypes:=ts }=>df P nt b args.toList ts.toList
 | _=>.bad
def bI:kV->Bool
 | .iV _ | .pick _ _ _ | .build _ _ | .OB _ | .bin .. | .cmp .. | .Pq .. | .Pt .. | .eqv .. | .Oh _ | .qi .. | .mkI .. | .tas .. | .mkF .. | .slS .. | .slV .. | .Z0 .. | .lY .. | .Xz .. | .Te .. | .ZV .. | .tq .. | .ixS .. | .ixG .. | .NJ .. | .kX ..=>true
 | _=>false
def guardOf (ops:Array Oper) (g:Option (Nat × Bool)):Option (Option (Slot × Bool)):=match g with
 | none=>some none
 | some (j,b)=>match ops[j]? with
  | some o=>match o.dst with
   | some d=>if d<nt then some (some (aX d,b)) else none
   | none=>none
  | none=>none
def rS (d:Option Tmp):Option (Option Slot):=match d with
 | none=>some none
 | some d=>if d<nt then some (some (aX d)) else none
def gJ (l:List Bool) (bf:Array Nat) (i:Nat):Bool:=l.zipIdx.all λp=>p.1 || p.2 == i || (bf.getD i 0).testBit p.2 || (bf.getD p.2 0).testBit i
def kO:kV->Bool
 | .oT _ | .XU _=>true
 | _=>false
def dz (l al:List Bool) (bf:Array Nat) (i:Nat):Bool:=!(al.getD i false) && l.zipIdx.all λp=>p.1 || p.2 == i || (bf.getD i 0).testBit p.2 || (bf.getD p.2 0).testBit i || (al.getD p.2 false && Yy i p.2)
def dv (base:Nat) (ops:Array Oper) (pl al:List Bool) (bf:Array Nat):List Oper->Nat->Option (List Cc)
 | [],_=>some []
 | o :: l,i=>match rS nt o.dst,guardOf nt ops o.guard,dv base ops pl al bf l (i+1) with
  | some d,some g,some r=>
   let c:=af P nt o
   some (.mk 0 d g (if bI c || dz pl al bf i then 0 else 1) c :: r)
  | _,_,_=>none
def vd (ops:Array Oper) (o:Oper):List Tmp:=o.dst.toList ++ o.looksAt ops
def jy (ops:Array Oper) (bf:Array Nat):Bool:=
 ops.toList.zipIdx.all λp=>ops.toList.zipIdx.all λq=>p.2 == q.2 || (match p.1.dst with
  | none=>true
  | some d=>!(vd ops q.1).contains d || (if p.2<q.2 then (bf.getD q.2 0).testBit p.2 else (bf.getD p.2 0).testBit q.2))
def ld (ops:Array Oper):Bool:=ops.toList.zipIdx.all λp=>p.1.after.toList.all λe=>!Region.binds .any e || e.on<p.2
def DB:kV->Bool
 | .cS _ | .dx _ _=>true
 | _=>false
def Be:kV->Bool
 | .eX _ _ | .gX _ _ _ | .app _ _ _ _=>true
 | _=>false
def qA:kV->Arg
 | .cS a | .dx _ a=>a
 | .eX a _ | .gX _ a _=>a
 | .app _ _ s _=>s
 | .box _=>.c .aB
 | _=>.c .jk
def qk:kV->Bool
 | .box _=>true
 | _=>false
def jo (bf:Array Nat) (i j:Nat):Bool:=(bf.getD i 0).testBit j || (bf.getD j 0).testBit i
def jZ (cs:List kV) (bf:Array Nat) (i:Nat):Bool:=qk (cs.getD i .bad) && cs.zipIdx.any λq=>Be q.1 && Yy i q.2 && !(jo bf i q.2)
def abe (cs:List kV) (bf:Array Nat) (i:Nat):Bool:=Be (cs.getD i .bad) && cs.zipIdx.all λq=>bI q.1 || DB q.1 || q.2 == i || jo bf i q.2 || jZ cs bf q.2
def tp (l la:List Bool) (bf:Array Nat) (i:Nat):Bool:=l.zipIdx.all λp=>p.1 || p.2 == i || (bf.getD i 0).testBit p.2 || (bf.getD p.2 0).testBit i || (la.getD p.2 false && Yy p.2 i)
def Oa (cs:List kV) (bf:Array Nat):List Bool:=cs.zipIdx.map λq=>jZ cs bf q.2
def qM (cs:List kV) (bf:Array Nat) (i:Nat):Bool:=DB (cs.getD i .bad) && cs.zipIdx.any λq=>abe cs bf q.2 && !(jo bf i q.2)
def ab6 (cs:List kV) (bf:Array Nat):List Bool:=cs.zipIdx.map λq=>bI q.1 || qM cs bf q.2
def nI (cs:List kV) (bf:Array Nat) (i:Nat):Bool:=tp (ab6 cs bf) (Oa cs bf) bf i && (Be (cs.getD i .bad) || gJ (cs.map bI) bf i)
def Vq (cs:List kV) (bf:Array Nat):Bool:=cs.zipIdx.any λq=>Be q.1 && !(gJ (cs.map bI) bf q.2)
def lj (cs:List kV) (bf:Array Nat) (c:kV) (i:Nat):Nat:=if qM cs bf i then 2 else if bI c then 0 else if nI cs bf i then (if gJ (cs.map bI) bf i then 0 else 3) else if jZ cs bf i then 4 else 1
def iu (base:Nat) (ops:Array Oper) (cs:List kV) (bf:Array Nat):List Oper->Nat->Option (List uD)
 | [],_=>some []
 | o :: l,i=>match rS nt o.dst,guardOf nt ops o.guard,iu base ops cs bf l (i+1) with
  | some d,some g,some r=>some (.mk 0 d g (lj cs bf (af P nt o) i) i (bf.getD i 0) (qA (af P nt o)) (af P nt o):: r)
  | _,_,_=>none
def xrs:List Nat:=[]
def Cb (c:kV):Nat:=if bI c then 0 else if DB c then 5 else 6
def iv (base:Nat) (ops:Array Oper):List Oper->Nat->Option (List uD)
 | [],_=>some []
 | o :: l,i=>match rS nt o.dst,guardOf nt ops o.guard,iv base ops l (i+1) with
  | some d,some g,some r=>some (.mk 0 d g (Cb (af P nt o)) i 0 (qA (af P nt o)) (af P nt o):: r)
  | _,_,_=>none
def uI (c:kV):Bool:=bI c || DB c
def xOK (cs:List kV) (bf:Array Nat):Bool:=cs.zipIdx.all λq=>uI q.1 || gJ (cs.map uI) bf q.2
def dn (o:Oper):Option (TypeId × Nat × Nat):=match o.op,o.dst,o.guard with
 | .load t (.tmp s),some d,none=>some (t,s,d)
 | _,_,_=>none
def lE (o:Oper):Bool:=(dn o).isSome
def FM (ops:Array Oper) (o:Oper):Bool:=match o.op,o.dst,o.guard with
 | .store t (.tmp s) (.tmp d),none,none=>o.after.toList.any λe=>Region.binds .any e && (match ops[e.on]? with | some o'=>dn o' == some (t,s,d) | none=>false)
 | _,_,_=>false
def kf (ops:Array Oper):List Nat:=ops.toList.filterMap λo=>(dn o).map (·.2.2)
def OK (t:TypeId):Bool:=match lB P t with
 | some true=>(qe P t).isSome
 | some false=>qe P t == some 1
 | none=>false
def Aj (ops:Array Oper):Bool:=
 ld ops && (ops.toList.all λo=>lE o || FM ops o) && decide (kf ops).Nodup && ops.toList.all λo=>match dn o with
  | some (t,s,_)=>!(kf ops).contains s && OK P t
  | none=>true
def Sq (base:Nat) (ops:Array Oper) (draw:Bool):ai:=
 if draw then
  if Aj P ops then (match dv P nt base ops [] [] #[] (ops.toList.filter lE) 0 with
   | some l=>.uu l
   | none=>.bad) else
  let bf:=Region.before ops
  if jy ops bf && ld ops then
   if xrs.contains base && xOK (ops.toList.map (af P nt)) bf then (match iv P nt base ops ops.toList 0 with
    | some l=>.ZK l
    | none=>.bad) else
   if Vq (ops.toList.map (af P nt)) bf then (match iu P nt base ops (ops.toList.map (af P nt)) bf ops.toList 0 with
    | some l=>.XA l
    | none=>.bad) else
   match dv P nt base ops (ops.toList.map λo=>bI (af P nt o)) (ops.toList.map λo=>kO (af P nt o)) bf ops.toList 0 with
   | some l=>.nG l
   | none=>.bad
  else .bad
 else match dv P nt base ops [] [] #[] ops.toList 0 with
  | some l=>.uu l
  | none=>.bad
def gD:List Tmp->Option (List Slot)
 | []=>some []
 | t :: l=>match gD l with
  | some r=>if t<nt then some (aX t :: r) else none
  | none=>none
def ic (fid:Nat) (inl:Bool):Code->ai
 | .skip=>.skip
 | .region id ops draw=>Sq P nt (fid * 100000+id * 100) ops draw
 | .seq a b=>.seq (ic fid inl a) (ic fid inl b)
 | .cond c a b=>match aJ nt c with
  | some x=>.cond x (ic fid inl a) (ic fid inl b)
  | none=>.bad
 | .block id a=>.block id (ic fid inl a)
 | .loop a=>.loop (ic fid inl a)
 | .exit id=>.exit id
 | .ret=>.ret
 | .rangeFunc g ps asL bo=>if inl then (match aJ nt g,gD nt ps.toList with
  | some x,some l=>.Bz x l (.mk nt fid asL) (.mk nt fid bo)
  | _,_=>.bad) else match aJ nt g,gD nt ps.toList with
  | some x,some l=>.kz x l (.mk nt fid asL) (.mk nt fid bo)
  | _,_=>.bad
 | _=>.bad
def aO:RC->ai
 | .mk nt fid c=>ic P nt fid true c
def kZ (l:List ResultVar):Option (List RV):=match l with
 | []=>some []
 | .tmp t :: l=>match kZ l with
  | some r=>if t<nt then some (.tmp (aX t):: r) else none
  | none=>none
 | .cell a t :: l=>match kZ l,lB P t,qe P t with
  | some r,some false,_=>if a<nt then some (.CO (aX a):: r) else none
  | some r,some true,some n=>if a<nt then some (.lP (aX a) n :: r) else none
  | _,_,_=>none
end
end Go.Ev
end
section
namespace Go.Ev
open Go.RowKit
def aA:Nat->Nat->List UInt8
 | 0,_=>[]
 | l+1,n=>UInt8.ofNat (n % 256):: aA l (n / 256)
def eV (k:IntKind):Nat:=2 ^ k.bits
def toI (k:IntKind) (n:Nat):Int:=k.wrap (n:Int)
structure M where
 b:Nat->Nat->Prop
 z:Nat->Nat->Prop
def M.le (m m':M):Prop:=(∀ b c,m.b b c->m'.b b c)/\∀ c z,m.z c z->m'.z c z
mutual
def VR (mu:M):V->Value->Prop
 | .int k n,v=>v = .int (oG k) (toI (oG k) n)/\n<eV (oG k)/\k<8
 | .bool b,v=>v = .bool b
 | .str l n,v=>v = .string ⟨(aA l n).toArray⟩/\n<256 ^ l
 | .ptr b o,v=>∃ c,v = .pointer (some ⟨c,o,none⟩)/\mu.b b c
 | .jk,v=>v = .pointer none
 | .slice b o l cp sz,v=>∃ c cap o' sp,v = .slice (some ⟨c,o',sp⟩) l cap/\mu.b b c/\l<=cap/\((∀ q,cp=q+1->cap=q)/\(cp=0->cap=0\/(mu.z c (o'+cap * sz)/\cap<9223372036854775808)))/\(o'=o/\sp=none\/cap=0)
 | .aB,v=>v = .slice none 0 0
 | .map b,v=>∃ c,v = .map (some c)/\mu.b b c
 | .xd,v=>v = .map none
 | .func f l,v=>∃ cs,v = .func (.func (f / 2)) (if f % 2=0 then #[] else cs) (if f % 2=0 then cs else #[])/\bS mu l cs.toList
 | .sK b,v=>∃ c,v = .func (.yield c) #[] #[]/\mu.b b c
 | .tz,v=>v = .nilFunc
 | .iface t x,v=>∃ y,v = .iface t y/\VR mu x y
 | .Eb,v=>v = .nilIface
 | .agg l,v=>∃ cs,v = .agg cs/\bS mu l cs.toList
 | .cV l,v=>∃ cs,v = .tuple cs/\bS mu l cs.toList
def bS (mu:M):List V->List Value->Prop
 | [],cs=>cs=[]
 | v :: l,cs=>∃ c r,cs=c :: r/\VR mu v c/\bS mu l r
end
mutual
theorem VR.mono {mu mu':M} (h:mu.le mu'):∀ (v:V) (c:Value),VR mu v c->VR mu' v c
 | .int ..,_,hv=>by simpa only [VR] using hv
 | .bool _,_,hv=>by simpa only [VR] using hv
 | .str ..,_,hv=>by simpa only [VR] using hv
 | .ptr ..,_,hv=>by simp only [VR]at hv ⊢;obtain ⟨c,h1,h2⟩:=hv;exact ⟨c,h1,h.1 _ _ h2⟩
 | .jk,_,hv=>by simpa only [VR] using hv
 | .slice ..,_,hv=>by simp only [VR]at hv ⊢;obtain ⟨c,cap,o',sp,h1,h2,h3,⟨h4,h5⟩,h6⟩:=hv;exact ⟨c,cap,o',sp,h1,h.1 _ _ h2,h3,⟨h4,λe=>(h5 e).imp id λq=>⟨h.2 _ _ q.1,q.2⟩⟩,h6⟩
 | .aB,_,hv=>by simpa only [VR] using hv
 | .map _,_,hv=>by simp only [VR]at hv ⊢;obtain ⟨c,h1,h2⟩:=hv;exact ⟨c,h1,h.1 _ _ h2⟩
 | .xd,_,hv=>by simpa only [VR] using hv
 | .func _ l,_,hv=>by simp only [VR]at hv ⊢;obtain ⟨c,h1,h2⟩:=hv;exact ⟨c,h1,bS.mono h l _ h2⟩
 | .sK _,_,hv=>by simp only [VR]at hv ⊢;obtain ⟨c,h1,h2⟩:=hv;exact ⟨c,h1,h.1 _ _ h2⟩
 | .tz,_,hv=>by simpa only [VR] using hv
 | .iface _ x,_,hv=>by simp only [VR]at hv ⊢;obtain ⟨c,h1,h2⟩:=hv;exact ⟨c,h1,VR.mono h x _ h2⟩
 | .Eb,_,hv=>by simpa only [VR] using hv
 | .agg l,_,hv=>by simp only [VR]at hv ⊢;obtain ⟨c,h1,h2⟩:=hv;exact ⟨c,h1,bS.mono h l _ h2⟩
 | .cV l,_,hv=>by simp only [VR]at hv ⊢;obtain ⟨c,h1,h2⟩:=hv;exact ⟨c,h1,bS.mono h l _ h2⟩
theorem bS.mono {mu mu':M} (h:mu.le mu'):∀ (l:List V) (cs:List Value),bS mu l cs->bS mu' l cs
 | [],_,hv=>by simpa only [bS] using hv
 | v :: l,_,hv=>by
  simp only [bS]at hv ⊢
  obtain ⟨c,r,h1,h2,h3⟩:=hv
  exact ⟨c,r,h1,VR.mono h v _ h2,bS.mono h l _ h3⟩
end
theorem bS.length {mu:M}:∀ {l:List V} {cs:List Value},bS mu l cs->cs.length=l.length
 | [],_,h=>by simp only [bS]at h;subst h;rfl
 | _ :: l,_,h=>by simp only [bS]at h;obtain ⟨c,r,rfl,_,h2⟩:=h;simp [bS.length h2]
theorem bS.get {mu:M}:∀ {l:List V} {cs:List Value},bS mu l cs->∀ {i:Nat} {v:V},l[i]? = some v->∃ c,cs[i]? = some c/\VR mu v c
 | [],_,_,i,v,hi=>by simp at hi
 | x :: l,_,h,i,v,hi=>by
  simp only [bS]at h
  obtain ⟨c,r,rfl,h1,h2⟩:=h
  cases i with
  | zero=>simp at hi;subst hi;exact ⟨c,rfl,h1⟩
  | succ i=>simp only [Qd]at hi ⊢;exact bS.get h2 hi
theorem bS.oZ {mu:M}:∀ {l:List V} {cs:List Value},cs.length=l.length->(∀ (i:Nat) (v:V) (c:Value),l[i]? = some v->cs[i]? = some c->VR mu v c)->bS mu l cs
 | [],cs,hl,_=>by simp only [bS];exact List.length_eq_zero_iff.1 (by simpa using hl)
 | x :: l,[],hl,_=>by simp at hl
 | x :: l,c :: r,hl,h=>by
  simp only [bS]
  exact ⟨c,r,rfl,h 0 x c rfl rfl,bS.oZ (by simpa using hl) λi v c' h1 h2=>h (i+1) v c' (by simpa using h1) (by simpa using h2)⟩
theorem bS.append {mu:M}:∀ {l m:List V} {cs ds:List Value},bS mu l cs->bS mu m ds->bS mu (l ++ m) (cs ++ ds)
 | [],_,_,_,h,h'=>by simp only [bS]at h;subst h;simpa using h'
 | x :: l,_,_,_,h,h'=>by
  simp only [bS]at h
  obtain ⟨c,r,rfl,h1,h2⟩:=h
  simp only [Yb,bS]
  exact ⟨c,_,rfl,h1,bS.append h2 h'⟩
def V.one:V->Bool
 | .agg _ | .cV _=>false
 | _=>true
theorem VR.one {mu:M} {v:V} {c:Value} (h:VR mu v c) (ho:v.one=true):(∀ x,c ≠ .agg x)/\(∀ x,c ≠ .tuple x):=by
 cases v<;>simp only [VR]at h<;>simp [V.one]at ho<;>
  first
  | (subst h;constructor<;>intro x hx<;>cases hx)
  | (obtain ⟨rfl,_⟩:=h;constructor<;>intro x hx<;>cases hx)
  | (obtain ⟨c,rfl,_⟩:=h;constructor<;>intro x hx<;>cases hx)
  | (obtain ⟨c,d,o,sp,rfl,_⟩:=h;constructor<;>intro x hx<;>cases hx)
inductive eB where
 | dead
 | cells (l:List V)
 | bytes (len n:Nat)
 | map (es:List (V × V))
 | mark
 | loop (st jump:Nat) (e:Env) (ps:List Slot) (assign body:RC)
 | view (l:List V)
def eB.alive:eB->Prop
 | .dead=>False
 | _=>True
def ik (mu:M) (l:List V) (c:Array Value) (fr:Nat × Nat):Prop:=
 (∀ (i:Nat) (v:V),l[i]? = some v->v.one=true/\∃ cv,c[i]? = some cv/\VR mu v cv)/\∀ i,i<c.size->¬ (fr.1<=i/\i<fr.2)
def p8 {α:Type} (i:I8) (t:N8 α):α:=match t with
 | .mk a0 a1 a2 a3 a4 a5 a6 a7=>match i with
  | .i0=>a0 | .i1=>a1 | .i2=>a2 | .i3=>a3 | .i4=>a4 | .i5=>a5 | .i6=>a6 | .i7=>a7
def aa (s:Slot) (e:Env):V:=match s with
 | .mk a b c=>p8 c (p8 b (p8 a e))
structure TR (mu:M) (nt:Nat) (e:Env) (tmps:Array Value):Prop where
 size:tmps.size=nt
 le:nt<=512
 get:∀ (t:Nat) (v:Value),tmps[t]? = some v->VR mu (aa (aX t) e) v
 rest:∀ t,nt<=t->t<512->aa (aX t) e = .cV []
theorem TR.mono {mu mu':M} (h:mu.le mu') {nt:Nat} {e:Env} {tmps:Array Value} (ht:TR mu nt e tmps):TR mu' nt e tmps:=
 ⟨ht.size,ht.le,λt v hv=>VR.mono h _ _ (ht.get t v hv),ht.rest⟩
def Up:LoopState->Nat
 | .ready=>0 | .busy=>1 | .done=>2 | .exhausted=>3
def HI:Nat->Option Code
 | 0=>none
 | 1=>some .ret
 | n+2=>some (.exit n)
def Kd (x y:V):Prop:=(∃ k a b,x = .int k a/\y = .int k b)\/∃ l a m b,x = .str l a/\y = .str m b
def eZ (ks:List V):Prop:=ks.Nodup/\∀ x ∈ ks,∀ y ∈ ks,Kd x y
def lz (ents:Array MapEntry) (clock:Nat):Prop:=(ents.toList.map (·.born)).Nodup/\∀ en ∈ ents.toList,en.born<clock
def BR (P:Program) (mu:M):eB->Obj->Prop
 | .dead,_=>True
 | .cells l,o=>∃ c e fr,o = .cells c e fr/\ik mu l c fr/\¬ (fr.1<=c.size/\c.size<fr.2)
 | .bytes len n,o=>∃ c e fr,o = .cells c e fr/\(n<256 ^ len/\∀ (i:Nat) (x:UInt8),(aA len n)[i]? = some x->c[i]? = some (Value.int .u8 (x.toNat:Int)))/\∀ i,i<c.size->¬ (fr.1<=i/\i<fr.2)
 | .map es,o=>∃ (ents:Array MapEntry) (clock:Nat) (es':List (V × V)),o = .map ents clock/\es'.Perm es/\eZ (es.map (·.1))/\lz ents clock/\bS mu (es'.map (·.1)) (ents.toList.map (·.key))/\bS mu (es'.map (·.2)) (ents.toList.map (·.val))
 | .mark,o=>∃ x,o = .deferred x
 | .view l,o=>∃ c e fr,o = .cells c e fr/\∀ (i:Nat) (v:V),l[i]? = some v->v.one=true->(∃ cv,c[i]? = some cv/\VR mu v cv)/\¬ (fr.1<=i/\i<fr.2)
 | .loop st jump e ps asL bo,o=>∃ (r:Loop) (nt fid:Nat),o = .loop r/\Up r.state=st/\r.pending=HI jump/\TR mu nt e r.tmps/\gD nt r.params.toList=some ps/\RC.mk nt fid r.assign=asL/\RC.mk nt fid r.body=bo
theorem BR.mono {P:Program} {mu mu':M} (h:mu.le mu') {bl:eB} {o:Obj} (hb:BR P mu bl o):BR P mu' bl o:=by
 cases bl with
 | dead=>exact True.intro
 | cells l=>
  obtain ⟨c,e,fr,h1,⟨h2,h3⟩,h4⟩:=hb
  exact ⟨c,e,fr,h1,⟨λi v hi=>⟨(h2 i v hi).1,(h2 i v hi).2.imp λcv hcv=>⟨hcv.1,VR.mono h _ _ hcv.2⟩⟩,h3⟩,h4⟩
 | bytes len n=>exact hb
 | map es=>
  obtain ⟨ents,clock,es',h1,h4,h5,h6,h2,h3⟩:=hb
  exact ⟨ents,clock,es',h1,h4,h5,h6,bS.mono h _ _ h2,bS.mono h _ _ h3⟩
 | mark=>exact hb
 | view l=>
  obtain ⟨c,e,fr,h1,h2⟩:=hb
  exact ⟨c,e,fr,h1,λi v hi ho=>⟨(h2 i v hi ho).1.imp λcv hcv=>⟨hcv.1,VR.mono h _ _ hcv.2⟩,(h2 i v hi ho).2⟩⟩
 | loop st jump e ps asL bo=>
  obtain ⟨r,nt,fid,h1,h2,h3,h4,h5⟩:=hb
  exact ⟨r,nt,fid,h1,h2,h3,h4.mono h,h5⟩
inductive HT where
 | e
 | n (v:eB) (l r:HT)
noncomputable def HT.get:HT->Nat->eB:=
 HT.rec (motive:=λ_=>Nat->eB) (λ_=>.dead)
  (λv _ _ gl gr k=>Nat.rec (motive:=λ_=>eB) v (λj _=>Nat.rec (motive:=λ_=>eB) (gl (Wf j 2)) (λ_ _=>gr (Wf j 2)) (Ys j 2)) k)
noncomputable def HT.set (x:eB):HT->Nat->(HT->R)->R:=
 HT.rec (motive:=λ_=>Nat->(HT->R)->R)
  (λk c=>Nat.rec (motive:=λ_=>R) (c (.n x .e .e)) (λ_ _=>no 1) k)
  (λu l r sl sr k c=>Nat.rec (motive:=λ_=>R) (c (.n x l r))
   (λj _=>Nat.rec (motive:=λ_=>R) (sl (Wf j 2) λl'=>c (.n u l' r)) (λ_ _=>sr (Wf j 2) λr'=>c (.n u l r')) (Ys j 2)) k)
theorem HT.uc (k:Nat):HT.get .e k = .dead:=rfl
theorem HT.Dt (v:eB) (l r:HT):HT.get (.n v l r) 0=v:=rfl
theorem HT.cI (v:eB) (l r:HT) (j:Nat):HT.get (.n v l r) (j+1)=if j%2=0 then HT.get l (j/2) else HT.get r (j/2):=by
 show Nat.rec (motive:=λ_=>eB) (HT.get l (j/2)) (λ_ _=>HT.get r (j/2)) (j%2)=_
 rcases (by omega:j%2=0\/j%2=1) with h|h<;>rw [h]<;>rfl
theorem HT.Im {x:eB}:∀ (t:HT) (k:Nat) (c:HT->R),t.set x k c=1->∃ t',c t'=1/\t'.get k=x/\∀ j,j≠k->t'.get j=t.get j:=by
 intro t
 induction t with
 | e=>
  intro k c h
  cases k with
  | zero=>
   refine ⟨_,h,rfl,λj hj=>?_⟩
   cases j with
   | zero=>exact absurd rfl hj
   | succ j=>rw [cI,uc,uc];simp [uc]
  | succ k=>exact (au h).elim
 | n u l r ihl ihr=>
  intro k c h
  cases k with
  | zero=>
   refine ⟨_,h,rfl,λj hj=>?_⟩
   cases j with
   | zero=>exact absurd rfl hj
   | succ j=>rw [cI,cI]
  | succ k=>
   have h':Nat.rec (motive:=λ_=>R) (l.set x (k/2) λl'=>c (.n u l' r)) (λ_ _=>r.set x (k/2) λr'=>c (.n u l r')) (k%2)=1:=h
   rcases (by omega:k%2=0\/k%2=1) with hk|hk
   .rw [hk]at h'
    obtain ⟨t',h1,h2,h3⟩:=ihl _ _ h'
    refine ⟨_,h1,by rw [cI,if_pos hk];exact h2,λj hj=>?_⟩
    cases j with
    | zero=>rfl
    | succ j=>
     rw [cI,cI]
     split
     .exact h3 _ (by omega)
     .rfl
   .rw [hk]at h'
    obtain ⟨t',h1,h2,h3⟩:=ihr _ _ h'
    refine ⟨_,h1,by rw [cI,if_neg (by omega)];exact h2,λj hj=>?_⟩
    cases j with
    | zero=>rfl
    | succ j=>
     rw [cI,cI]
     split
     .rfl
     .exact h3 _ (by omega)
inductive Heap where
 | mk (n bj:Nat) (t:HT)
noncomputable def Heap.n (h:Heap):Nat:=Heap.rec (λn _ _=>n) h
noncomputable def Heap.bj (h:Heap):Nat:=Heap.rec (λ_ w _=>w) h
noncomputable def Heap.t (h:Heap):HT:=Heap.rec (λ_ _ t=>t) h
noncomputable def Heap.get (h:Heap) (b:Nat):eB:=h.t.get b
def mu (rho:Nat->Option Nat) (H:Heap) (w:World):M:=⟨λb c=>b<H.n/\((H.get b).alive->rho b=some c),λc z=>∃ cs e fr,w.heap[c]? = some (.cells cs e fr)/\cs.size=z⟩
def GB (_:Nat):Prop:=False
def GQ (_:World):Prop:=True
theorem uJ {w w':World} (_:GQ w) (_:∀ c,GB c->w'.heap[c]? = w.heap[c]?):GQ w':=trivial
theorem Gno {w:World}:GQ w/\∀ c,GB c->c<w.heap.size:=⟨trivial,λ_ h=>h.elim⟩
def Gl (rho:Nat->Option Nat) (w:World):Prop:=GQ w/\(∀ c,GB c->c<w.heap.size)/\∀ b c,rho b=some c->¬ GB c
structure PR (P:Program) (base:Nat) (w0:World) (rho:Nat->Option Nat) (H:Heap) (w:World):Prop where
 below:Below base w0 w
 cM:base<=w.heap.size
 wn:H.bj<=H.n
 jt:∀ b c,rho b=some c->b<H.n/\base<=c/\c<w.heap.size/\(H.get b).alive
 inj:∀ b b' c,rho b=some c->rho b'=some c->b=b'
 cO:∀ b c,rho b=some c->∃ o,w.heap[c]? = some o/\BR P (mu rho H w) (H.get b) o
 out:∀ b,H.n<=b->H.get b = .dead
 gl:Gl rho w
structure Ext (rho:Nat->Option Nat) (H:Heap) (w:World) (rho':Nat->Option Nat) (H':Heap) (w':World):Prop where
 n:H.n<=H'.n
 bj:H'.bj<=H.bj
 size:w.heap.size<=w'.heap.size
 dm:∀ b,b<H.n->b<H'.bj->H'.get b=H.get b/\rho' b=rho b
 old:∀ b c,b<H.n->rho' b=some c->rho b=some c
 live:∀ b c,rho b=some c->(H'.get b).alive->rho' b=some c
 qm:∀ b,b<H.n->(H'.get b).alive->(H.get b).alive
 new:∀ b c,H.n<=b->rho' b=some c->w.heap.size<=c\/∃ b0,rho b0=some c/\H'.bj<=b0
 fr:∀ c,c<w.heap.size->(∀ b,rho b=some c->b<H'.bj)->w'.heap[c]? = w.heap[c]?
 marks:∀ b,H.get b = .mark->H'.get b = .mark/\rho' b=rho b/\∀ c,rho b=some c->w'.heap[c]? = w.heap[c]?
 rows:∀ (c:Nat) (cs:Array Value) (e:TypeId) (fr:Nat × Nat),w.heap[c]? = some (.cells cs e fr)->∃ cs' e' fr',w'.heap[c]? = some (.cells cs' e' fr')/\cs'.size=cs.size
 loops:∀ (c:Nat) (r:Loop),w.heap[c]? = some (.loop r)->∃ r',w'.heap[c]? = some (.loop r')
theorem Ext.refl {rho:Nat->Option Nat} {H:Heap} {w:World} (hd:∀ b c,rho b=some c->b<H.n):Ext rho H w rho H w:=
 ⟨YA _,YA _,YA _,λ_ _ _=>⟨rfl,rfl⟩,λ_ _ _ h=>h,λ_ _ h _=>h,λ_ _ h=>h,λb c hb h=>absurd (hd b c h) (by omega),λ_ _ _=>rfl,λb h=>⟨h,rfl,λ_ _=>rfl⟩,λc cs e fr h=>⟨cs,e,fr,h,rfl⟩,λc r h=>⟨r,h⟩⟩
theorem Gl.step {rho rho':Nat->Option Nat} {H H':Heap} {w w':World} (h:Gl rho w) (e:Ext rho H w rho' H' w'):Gl rho' w':=by
 obtain ⟨h1,h2,h3⟩:=h
 refine ⟨uJ h1 λc hc=>e.fr c (h2 c hc) λb hb=>absurd hc (h3 b c hb),λc hc=>YE (h2 c hc) e.size,λb c hb hc=>?_⟩
 by_cases hbn:b<H.n
 .exact h3 b c (e.old b c hbn hb) hc
 .rcases e.new b c (by omega) hb with h|⟨b0,h4,_⟩
  .have:=h2 c hc;omega
  .exact h3 b0 c h4 hc
theorem Ext.mu {rho rho':Nat->Option Nat} {H H':Heap} {w w':World} (h:Ext rho H w rho' H' w'):(mu rho H w).le (mu rho' H' w'):=
 ⟨λb c ⟨h1,h2⟩=>⟨YE h1 h.n,λha=>h.live _ _ (h2 (h.qm b h1 ha)) ha⟩,
  λc z ⟨cs,e,fr,h1,h2⟩=>let ⟨cs',e',fr',h3,h4⟩:=h.rows c cs e fr h1; ⟨cs',e',fr',h3,h4.trans h2⟩⟩
theorem Ext.trans {r r1 r2:Nat->Option Nat} {H H1 H2:Heap} {w w1 w2:World} (hd:∀ b c,r b=some c->b<H.n) (h:Ext r H w r1 H1 w1) (k:Ext r1 H1 w1 r2 H2 w2):Ext r H w r2 H2 w2 where
 n:=Yn h.n k.n
 bj:=Yn k.bj h.bj
 size:=Yn h.size k.size
 dm b hb hw:=by
  obtain ⟨a1,a2⟩:=h.dm b hb (YE hw k.bj)
  obtain ⟨b1,b2⟩:=k.dm b (YE hb h.n) hw
  exact ⟨b1.trans a1,b2.trans a2⟩
 old b c hb hr:=h.old b c hb (k.old b c (YE hb h.n) hr)
 live b c hr ha:=by
  have hb:b<H1.n:=YE (hd b c hr) h.n
  exact k.live b c (h.live b c hr (k.qm b hb ha)) ha
 qm b hb ha:=h.qm b hb (k.qm b (YE hb h.n) ha)
 new b c hb hr:=by
  by_cases hb1:b<H1.n
  .rcases h.new b c hb (k.old b c hb1 hr) with h'|⟨b0,h1,h2⟩
   .exact YG h'
   .exact YD ⟨b0,h1,Yn k.bj h2⟩
  .rcases k.new b c (by omega) hr with h'|⟨b0,h1,h2⟩
   .exact YG (Yn h.size h')
   .by_cases hb0:b0<H.n
    .exact YD ⟨b0,h.old b0 c hb0 h1,h2⟩
    .rcases h.new b0 c (by omega) h1 with h'|⟨b1,h3,h4⟩
     .exact YG h'
     .exact YD ⟨b1,h3,Yn k.bj h4⟩
 fr c hc hb:=by
  refine (k.fr c (YE hc h.size) λb hr=>?_).trans (h.fr c hc λb hr=>YE (hb b hr) k.bj)
  by_cases hb0:b<H.n
  .exact hb b (h.old b c hb0 hr)
  .rcases h.new b c (by omega) hr with h'|⟨b1,h3,h4⟩
   .omega
   .have:=hb b1 h3
    have:=k.bj
    omega
 rows c cs e fr hc:=by
  obtain ⟨cs',e',fr',h1,h2⟩:=h.rows c cs e fr hc
  obtain ⟨cs2,e2,fr2,h3,h4⟩:=k.rows c cs' e' fr' h1
  exact ⟨cs2,e2,fr2,h3,h4.trans h2⟩
 loops c r hc:=by
  obtain ⟨r',h1⟩:=h.loops c r hc
  exact k.loops c r' h1
 marks b hb:=by
  obtain ⟨a1,a2,a3⟩:=h.marks b hb
  obtain ⟨b1,b2,b3⟩:=k.marks b a1
  exact ⟨b1,b2.trans a2,λc hc=>(b3 c (a2.trans hc)).trans (a3 c hc)⟩
section
variable {P:Program} {base:Nat} {w0 w w':World} {rho:Nat->Option Nat} {H H':Heap}
theorem PR.lt (h:PR P base w0 rho H w):∀ b c,rho b=some c->b<H.n:=λb c hr=>(h.jt b c hr).1
theorem PR.drawn (h:PR P base w0 rho H w) (n:Nat):PR P base w0 rho H {w with drawn:=n } where
 below:=⟨h.below.os,h.below.tape,h.below.output,h.below.size,h.below.block⟩
 cM:=h.cM
 wn:=h.wn
 jt:=h.jt
 inj:=h.inj
 cO:=h.cO
 out:=h.out
 gl:=⟨uJ h.gl.1 λ_ _=>rfl,h.gl.2⟩
theorem nX (h:Below base w0 w) (hos:w'.os=w.os) (htape:w'.tape=w.tape) (hout:w'.output=w.output) (hsz:w.heap.size<=w'.heap.size)
 (hb:∀ k,k<base->w'.heap[k]? = w.heap[k]?):Below base w0 w':=
 ⟨hos.trans h.os,htape.trans h.tape,hout.trans h.output,Yn h.size hsz,λk hk=>(hb k hk).trans (h.block k hk)⟩
theorem PR.HV (h:PR P base w0 rho H w) (hn:H'.n=H.n) (ht:∀ b,H'.get b=H.get b) (hw:H'.bj<=H'.n):PR P base w0 rho H' w:=by
 have hm:(mu rho H w).le (mu rho H' w):=⟨λb c hm=>⟨by rw [hn];exact hm.1,by rw [ht];exact hm.2⟩,λ_ _ h=>h⟩
 exact ⟨h.below,h.cM,hw,λb c hr=>by rw [hn,ht];exact h.jt b c hr,h.inj,λb c hr=>by
  obtain ⟨o,h1,h2⟩:=h.cO b c hr
  rw [ht]
  exact ⟨o,h1,h2.mono hm⟩,λb hb=>by rw [ht];exact h.out b (by omega),h.gl⟩
structure vB (w w':World):Prop where
 os:w'.os=w.os
 tape:w'.tape=w.tape
 output:w'.output=w.output
theorem PR.alloc (h:PR P base w0 rho H w) {bl:eB} {o:Obj} (hn:H'.n=H.n+1) (hw:H'.bj=H.bj) (hg:H'.get H.n=bl) (ho:∀ j,j≠H.n->H'.get j=H.get j)
 (ha:bl.alive) (hs:vB w w') (hsz:w'.heap.size=w.heap.size+1) (hnew:w'.heap[w.heap.size]? = some o) (hold:∀ j,j<w.heap.size->w'.heap[j]? = w.heap[j]?)
 (hb:BR P (mu rho H w) bl o):
 PR P base w0 (λb=>if b=H.n then some w.heap.size else rho b) H' w'/\Ext rho H w (λb=>if b=H.n then some w.heap.size else rho b) H' w':=by
 have hlt:=h.lt
 have hE:Ext rho H w (λb=>if b=H.n then some w.heap.size else rho b) H' w':=by
  refine ⟨by omega,by omega,by omega,λb hb _=>⟨ho b (by omega),by simp [QV hb]⟩,λb c hb hr=>?_,λb c hr _=>?_,λb hb hal=>?_,λb c hb hr=>?_,λc hc _=>hold c hc,λb hm=>?_,λc cs e fr hc=>⟨cs,e,fr,(hold c (YL.1 hc).1).trans hc,rfl⟩,λc r hc=>⟨r,(hold c (YL.1 hc).1).trans hc⟩⟩
  .simpa [QV hb] using hr
  .have:=hlt b c hr;simp [QV this,hr]
  .rwa [ho b (by omega)]at hal
  .by_cases hb':b=H.n
   .simp [hb']at hr;omega
   .simp [hb']at hr;have:=hlt b c hr;omega
  .have hb':b≠H.n:=λe=>by subst e;rw [h.out H.n (YA _)]at hm;cases hm
   exact ⟨(ho b hb').trans hm,by simp [hb'],λc hc=>hold c (h.jt b c hc).2.2.1⟩
 refine ⟨⟨nX h.below hs.os hs.tape hs.output (by omega) λk hk=>hold k (by have:=h.cM;omega),by have:=h.cM;omega,by have:=h.wn;omega,λb c hr=>?_,λb b' c hr hr'=>?_,λb c hr=>?_,λb hb'=>?_,h.gl.step hE⟩,hE⟩
 .by_cases hb':b=H.n
  .subst hb'
   simp at hr
   subst hr
   exact ⟨by omega,h.cM,by omega,by rw [hg];exact ha⟩
  .simp [hb']at hr
   obtain ⟨h1,h2,h3,h4⟩:=h.jt b c hr
   exact ⟨by omega,h2,by omega,by rw [ho b hb'];exact h4⟩
 .by_cases h1:b=H.n<;>by_cases h2:b'=H.n<;>simp [h1,h2]at hr hr'
  .omega
  .have:=(h.jt b' c hr').2.2.1;omega
  .have:=(h.jt b c hr).2.2.1;omega
  .exact h.inj b b' c hr hr'
 .by_cases hb':b=H.n
  .subst hb'
   simp at hr
   subst hr
   exact ⟨o,hnew,by rw [hg];exact hb.mono hE.mu⟩
  .simp [hb']at hr
   obtain ⟨o',h1,h2⟩:=h.cO b c hr
   refine ⟨o',(hold c (h.jt b c hr).2.2.1).trans h1,?_⟩
   rw [ho b hb']
   exact h2.mono hE.mu
 .rw [ho b (by omega)]
  exact h.out b (by omega)
theorem PR.write (h:PR P base w0 rho H w) {b c:Nat} {bl:eB} {o:Obj} (hr:rho b=some c) (hnm:H.get b ≠ .mark) (hn:H'.n=H.n) (hw:H'.bj<=H.bj) (hwb:H'.bj<=b) (hg:H'.get b=bl)
 (ho:∀ j,j≠b->H'.get j=H.get j) (ha:bl.alive) (hs:vB w w') (hsz:w'.heap.size=w.heap.size) (hnew:w'.heap[c]? = some o) (hold:∀ j,j≠c->w'.heap[j]? = w.heap[j]?)
 (hb:BR P (mu rho H w) bl o) (hz:∀ cs e fr,w.heap[c]? = some (.cells cs e fr)->∃ cs' e' fr',o = .cells cs' e' fr'/\cs'.size=cs.size) (hlp:∀ r,w.heap[c]? = some (.loop r)->∃ r',o = .loop r'):PR P base w0 rho H' w'/\Ext rho H w rho H' w':=by
 have hlt:=h.lt
 have hd:=h.jt b c hr
 have hE:Ext rho H w rho H' w':=by
  refine ⟨by omega,hw,by omega,λj hj hjw=>⟨ho j (by omega),rfl⟩,λ_ _ _ h=>h,λ_ _ h _=>h,λj hj hal=>?_,λj c' hj hr'=>?_,λj hj hjw=>hold j λe=>?_,λj hm=>⟨(ho j λe=>by subst e;exact hnm hm).trans hm,rfl,λc1 hc1=>hold c1 λe=>hnm (by subst e;rw [<- h.inj j b c1 hc1 hr];exact hm)⟩,λj cs e fr hj=>?_,λj r hj=>?_⟩
  .by_cases hjb:j=b
   .subst hjb;exact hd.2.2.2
   .rwa [ho j hjb]at hal
  .have:=hlt j c' hr';omega
  .subst e;have:=hjw b hr;omega
  .by_cases hjc:j=c
   .subst hjc
    obtain ⟨cs',e',fr',h1,h2⟩:=hz cs e fr hj
    exact ⟨cs',e',fr',by rw [hnew,h1],h2⟩
   .exact ⟨cs,e,fr,(hold j hjc).trans hj,rfl⟩
  .by_cases hjc:j=c
   .subst hjc
    obtain ⟨r',h1⟩:=hlp r hj
    exact ⟨r',by rw [hnew,h1]⟩
   .exact ⟨r,(hold j hjc).trans hj⟩
 refine ⟨⟨nX h.below hs.os hs.tape hs.output (by omega) λk hk=>hold k (by omega),by have:=h.cM;omega,by have:=h.wn;omega,λj c' hr'=>?_,h.inj,λj c' hr'=>?_,λj hj=>?_,h.gl.step hE⟩,hE⟩
 .obtain ⟨h1,h2,h3,h4⟩:=h.jt j c' hr'
  refine ⟨by omega,h2,by omega,?_⟩
  by_cases hjb:j=b
  .subst hjb;rw [hg];exact ha
  .rw [ho j hjb];exact h4
 .by_cases hjb:j=b
  .subst hjb
   rw [hr]at hr'
   cases hr'
   exact ⟨o,hnew,by rw [hg];exact hb.mono hE.mu⟩
  .obtain ⟨o',h1,h2⟩:=h.cO j c' hr'
   refine ⟨o',(hold c' λe=>hjb (h.inj j b c' hr' (e ▸ hr))).trans h1,?_⟩
   rw [ho j hjb]
   exact h2.mono hE.mu
 .rw [ho j (by omega)]
  exact h.out j (by omega)
theorem PR.move (h:PR P base w0 rho H w) {b c c':Nat} {bl:eB} {o:Obj} (hr:rho b=some c) (hnm:H.get b ≠ .mark) (hn:H'.n=H.n+1) (hw:H'.bj<=H.bj) (hwb:H'.bj<=b) (hd:H'.get b = .dead) (hg:H'.get H.n=bl)
 (ho:∀ j,j≠b->j≠H.n->H'.get j=H.get j) (ha:bl.alive) (hs:vB w w') (hsz:w.heap.size<=w'.heap.size) (hc':c'=c\/w.heap.size<=c') (hc'':c'<w'.heap.size) (hnew:w'.heap[c']? = some o)
 (hold:∀ j,j<w.heap.size->j≠c->w'.heap[j]? = w.heap[j]?)
 (hb:BR P (mu rho H w) bl o) (hz:∀ cs e fr,w.heap[c]? = some (.cells cs e fr)->∃ cs' e' fr',w'.heap[c]? = some (.cells cs' e' fr')/\cs'.size=cs.size) (hlp:∀ r,w.heap[c]? = some (.loop r)->False):
 PR P base w0 (λj=>if j=H.n then some c' else if j=b then none else rho j) H' w'/\Ext rho H w (λj=>if j=H.n then some c' else if j=b then none else rho j) H' w':=by
 have hlt:=h.lt
 have hdm:=h.jt b c hr
 have hbn:b≠H.n:=by omega
 have hE:Ext rho H w (λj=>if j=H.n then some c' else if j=b then none else rho j) H' w':=by
  refine ⟨by omega,hw,hsz,λj hj hjw=>⟨ho j (by omega) (by omega),(λ(hjb:j≠b)=>by simp [QV hj,hjb]) (by omega)⟩,λj c1 hj h1=>?_,λj c1 h1 hal=>?_,λj hj hal=>?_,λj c1 hj h1=>?_,λj hj hjw=>hold j hj λe=>?_,λj hm=>?_,λj cs e fr hj=>?_,λj r hj=>⟨r,(hold j (YL.1 hj).1 λe=>hlp r (e ▸ hj)).trans hj⟩⟩
  .simp only [QV hj,if_false]at h1
   split at h1
   .cases h1
   .exact h1
  .have h2:=hlt j c1 h1
   by_cases hjb:j=b
   .subst hjb;rw [hd]at hal;exact hal.elim
   .simp [QV h2,hjb,h1]
  .by_cases hjb:j=b
   .subst hjb;exact hdm.2.2.2
   .rwa [ho j hjb (by omega)]at hal
  .by_cases hjn:j=H.n
   .simp [hjn]at h1
    subst h1
    rcases hc' with e|e
    .exact YD ⟨b,e ▸ hr,hwb⟩
    .exact YG e
   .by_cases hjb:j=b
    .omega
    .simp [hjn,hjb]at h1
     have:=hlt j c1 h1
     omega
  .subst e;have:=hjw b hr;omega
  .have h1:j≠H.n:=λe=>by subst e;rw [h.out H.n (YA _)]at hm;cases hm
   have h2:j≠b:=λe=>by subst e;exact hnm hm
   exact ⟨(ho j h2 h1).trans hm,by simp [h1,h2],λc1 hc1=>hold c1 (h.jt j c1 hc1).2.2.1 λe=>h2 (h.inj j b c1 hc1 (e ▸ hr))⟩
  .by_cases hjc:j=c
   .subst hjc;exact hz cs e fr hj
   .exact ⟨cs,e,fr,(hold j (YL.1 hj).1 hjc).trans hj,rfl⟩
 refine ⟨⟨nX h.below hs.os hs.tape hs.output hsz λk hk=>hold k (by have:=h.cM;omega) (by omega),by have:=h.cM;omega,by have:=h.wn;omega,λj c1 hr'=>?_,λj j' c1 hr1 hr2=>?_,λj c1 hr'=>?_,λj hj=>?_,h.gl.step hE⟩,hE⟩
 .by_cases hjn:j=H.n
  .simp [hjn]at hr'
   subst hr'
   subst hjn
   refine ⟨by omega,?_,hc'',by rw [hg];exact ha⟩
   rcases hc' with e|e
   .omega
   .have:=h.cM;omega
  .by_cases hjb:j=b
   .simp [hjb,hbn]at hr'
   .simp [hjn,hjb]at hr'
    obtain ⟨h1,h2,h3,h4⟩:=h.jt j c1 hr'
    exact ⟨by omega,h2,by omega,by rw [ho j hjb hjn];exact h4⟩
 .have key:∀ j,j≠H.n->j≠b->rho j=some c'->False:=by
   intro j _ hj2 hj3
   rcases hc' with e|e
   .subst e;exact hj2 (h.inj j b c' hj3 hr)
   .have:=(h.jt j c' hj3).2.2.1;omega
  by_cases h1:j=H.n<;>by_cases h2:j'=H.n
  .omega
  .by_cases h3:j'=b
   .simp [h3,hbn]at hr2
   .simp [h2,h3]at hr2
    simp [h1]at hr1
    subst hr1
    exact (key j' h2 h3 hr2).elim
  .by_cases h3:j=b
   .simp [h3,hbn]at hr1
   .simp [h1,h3]at hr1
    simp [h2]at hr2
    subst hr2
    exact (key j h1 h3 hr1).elim
  .by_cases h3:j=b
   .simp [h3,hbn]at hr1
   .by_cases h4:j'=b
    .simp [h4,hbn]at hr2
    .simp [h1,h3]at hr1
     simp [h2,h4]at hr2
     exact h.inj j j' c1 hr1 hr2
 .by_cases hjn:j=H.n
  .simp [hjn]at hr'
   subst hr'
   subst hjn
   exact ⟨o,hnew,by rw [hg];exact hb.mono hE.mu⟩
  .by_cases hjb:j=b
   .simp [hjb,hbn]at hr'
   .simp [hjn,hjb]at hr'
    obtain ⟨o',h1,h2⟩:=h.cO j c1 hr'
    refine ⟨o',(hold c1 (h.jt j c1 hr').2.2.1 λe=>hjb (h.inj j b c1 hr' (e ▸ hr))).trans h1,?_⟩
    rw [ho j hjb hjn]
    exact h2.mono hE.mu
 .rw [ho j (by omega) (by omega)]
  exact h.out j (by omega)
end
end Go.Ev
end
section
set_option maxRecDepth 100000
namespace Go.Ev
noncomputable def g80 {α:Type} (t:N8 α) (k:α->R):R:=N8.rec (motive:=λ_=>R) (λa0 a1 a2 a3 a4 a5 a6 a7=>k a0) t
noncomputable def u80 {α:Type} (t:N8 α) (f:α->(α->R)->R) (k:N8 α->R):R:=N8.rec (motive:=λ_=>R) (λa0 a1 a2 a3 a4 a5 a6 a7=>f a0 λx=>k (N8.mk x a1 a2 a3 a4 a5 a6 a7)) t
noncomputable def g81 {α:Type} (t:N8 α) (k:α->R):R:=N8.rec (motive:=λ_=>R) (λa0 a1 a2 a3 a4 a5 a6 a7=>k a1) t
noncomputable def u81 {α:Type} (t:N8 α) (f:α->(α->R)->R) (k:N8 α->R):R:=N8.rec (motive:=λ_=>R) (λa0 a1 a2 a3 a4 a5 a6 a7=>f a1 λx=>k (N8.mk a0 x a2 a3 a4 a5 a6 a7)) t
noncomputable def g82 {α:Type} (t:N8 α) (k:α->R):R:=N8.rec (motive:=λ_=>R) (λa0 a1 a2 a3 a4 a5 a6 a7=>k a2) t
noncomputable def u82 {α:Type} (t:N8 α) (f:α->(α->R)->R) (k:N8 α->R):R:=N8.rec (motive:=λ_=>R) (λa0 a1 a2 a3 a4 a5 a6 a7=>f a2 λx=>k (N8.mk a0 a1 x a3 a4 a5 a6 a7)) t
noncomputable def g83 {α:Type} (t:N8 α) (k:α->R):R:=N8.rec (motive:=λ_=>R) (λa0 a1 a2 a3 a4 a5 a6 a7=>k a3) t
noncomputable def u83 {α:Type} (t:N8 α) (f:α->(α->R)->R) (k:N8 α->R):R:=N8.rec (motive:=λ_=>R) (λa0 a1 a2 a3 a4 a5 a6 a7=>f a3 λx=>k (N8.mk a0 a1 a2 x a4 a5 a6 a7)) t
noncomputable def g84 {α:Type} (t:N8 α) (k:α->R):R:=N8.rec (motive:=λ_=>R) (λa0 a1 a2 a3 a4 a5 a6 a7=>k a4) t
noncomputable def u84 {α:Type} (t:N8 α) (f:α->(α->R)->R) (k:N8 α->R):R:=N8.rec (motive:=λ_=>R) (λa0 a1 a2 a3 a4 a5 a6 a7=>f a4 λx=>k (N8.mk a0 a1 a2 a3 x a5 a6 a7)) t
noncomputable def g85 {α:Type} (t:N8 α) (k:α->R):R:=N8.rec (motive:=λ_=>R) (λa0 a1 a2 a3 a4 a5 a6 a7=>k a5) t
noncomputable def u85 {α:Type} (t:N8 α) (f:α->(α->R)->R) (k:N8 α->R):R:=N8.rec (motive:=λ_=>R) (λa0 a1 a2 a3 a4 a5 a6 a7=>f a5 λx=>k (N8.mk a0 a1 a2 a3 a4 x a6 a7)) t
noncomputable def g86 {α:Type} (t:N8 α) (k:α->R):R:=N8.rec (motive:=λ_=>R) (λa0 a1 a2 a3 a4 a5 a6 a7=>k a6) t
noncomputable def u86 {α:Type} (t:N8 α) (f:α->(α->R)->R) (k:N8 α->R):R:=N8.rec (motive:=λ_=>R) (λa0 a1 a2 a3 a4 a5 a6 a7=>f a6 λx=>k (N8.mk a0 a1 a2 a3 a4 a5 x a7)) t
noncomputable def g87 {α:Type} (t:N8 α) (k:α->R):R:=N8.rec (motive:=λ_=>R) (λa0 a1 a2 a3 a4 a5 a6 a7=>k a7) t
noncomputable def u87 {α:Type} (t:N8 α) (f:α->(α->R)->R) (k:N8 α->R):R:=N8.rec (motive:=λ_=>R) (λa0 a1 a2 a3 a4 a5 a6 a7=>f a7 λx=>k (N8.mk a0 a1 a2 a3 a4 a5 a6 x)) t
noncomputable def g8 {α:Type} (i:I8):N8 α->(α->R)->R:=I8.rec (motive:=λ_=>N8 α->(α->R)->R) g80 g81 g82 g83 g84 g85 g86 g87 i
noncomputable def u8 {α:Type} (i:I8):N8 α->(α->(α->R)->R)->(N8 α->R)->R:=I8.rec (motive:=λ_=>N8 α->(α->(α->R)->R)->(N8 α->R)->R) u80 u81 u82 u83 u84 u85 u86 u87 i
noncomputable def jz (s:Slot) (e:Env) (k:V->R):R:=Slot.rec (motive:=λ_=>R) (λa b c=>g8 a e λt=>g8 b t λu=>g8 c u k) s
noncomputable def Il (s:Slot) (v:V) (e:Env) (k:Env->R):R:=Slot.rec (motive:=λ_=>R) (λa b c=>u8 a e (λt k1=>u8 b t (λu k2=>u8 c u (λ_ k3=>k3 v) k2) k1) k) s
noncomputable def aH (a:Arg) (e:Env) (k:V->R):R:=Arg.rec (motive:=λ_=>R) (λs=>jz s e k) (λv=>k v) a
noncomputable def om (l:List Arg) (e:Env):(List V->R)->R:=List.rec (motive:=λ_=>(List V->R)->R) (λk=>k []) (λa _ ih k=>aH a e λv=>ih λr=>k (v :: r)) l
noncomputable def av (n:Nat) (k:Nat->R):R:=Nat.rec (motive:=λ_=>R) (k Nat.zero) (λm _=>k (WI m)) n
noncomputable def aD (c:Bool) (t f:R):R:=Bool.rec (motive:=λ_=>R) f t c
noncomputable def cw (id:Nat) (x:V) (k:Nat->Nat->R):R:=V.rec (motive_1:=λ_=>R) (motive_2:=λ_=>R) (k) (λ_=>no 0) (λ_ _=>no 0) (λ_ _=>no 0) (no 0) (λ_ _ _ _ _=>no 0) (no 0) (λ_=>no 0) (no 0) (λ_ _ _=>no 0) (λ_=>no 0) (no 0) (λ_ _ _=>no 0) (no 0) (λ_ _=>no 0) (λ_ _=>no 0) (0:R) (λ_ _ _ _=>(0:R)) x
noncomputable def eJ (id:Nat) (x:V) (k:Bool->R):R:=V.rec (motive_1:=λ_=>R) (motive_2:=λ_=>R) (λ_ _=>no 0) (k) (λ_ _=>no 0) (λ_ _=>no 0) (no 0) (λ_ _ _ _ _=>no 0) (no 0) (λ_=>no 0) (no 0) (λ_ _ _=>no 0) (λ_=>no 0) (no 0) (λ_ _ _=>no 0) (no 0) (λ_ _=>no 0) (λ_ _=>no 0) (0:R) (λ_ _ _ _=>(0:R)) x
noncomputable def dZ (id:Nat) (x:V) (k:Nat->Nat->R):R:=V.rec (motive_1:=λ_=>R) (motive_2:=λ_=>R) (λ_ _=>no 0) (λ_=>no 0) (k) (λ_ _=>no 0) (no 0) (λ_ _ _ _ _=>no 0) (no 0) (λ_=>no 0) (no 0) (λ_ _ _=>no 0) (λ_=>no 0) (no 0) (λ_ _ _=>no 0) (no 0) (λ_ _=>no 0) (λ_ _=>no 0) (0:R) (λ_ _ _ _=>(0:R)) x
noncomputable def ei (id:Nat) (x:V) (k:Nat->Nat->R):R:=V.rec (motive_1:=λ_=>R) (motive_2:=λ_=>R) (λ_ _=>no 0) (λ_=>no 0) (λ_ _=>no 0) (k) (no 0) (λ_ _ _ _ _=>no 0) (no 0) (λ_=>no 0) (no 0) (λ_ _ _=>no 0) (λ_=>no 0) (no 0) (λ_ _ _=>no 0) (no 0) (λ_ _=>no 0) (λ_ _=>no 0) (0:R) (λ_ _ _ _=>(0:R)) x
noncomputable def lH (id:Nat) (x:V) (k:Nat->Nat->Nat->Nat->Nat->R):R:=V.rec (motive_1:=λ_=>R) (motive_2:=λ_=>R) (λ_ _=>no 0) (λ_=>no 0) (λ_ _=>no 0) (λ_ _=>no 0) (no 0) (k) (no 0) (λ_=>no 0) (no 0) (λ_ _ _=>no 0) (λ_=>no 0) (no 0) (λ_ _ _=>no 0) (no 0) (λ_ _=>no 0) (λ_ _=>no 0) (0:R) (λ_ _ _ _=>(0:R)) x
noncomputable def bh (id:Nat) (x:V) (k:Nat->Nat->Nat->Nat->Nat->R) (z:R):R:=V.rec (motive_1:=λ_=>R) (motive_2:=λ_=>R) (λ_ _=>no 0) (λ_=>no 0) (λ_ _=>no 0) (λ_ _=>no 0) (no 0) (k) (z) (λ_=>no 0) (no 0) (λ_ _ _=>no 0) (λ_=>no 0) (no 0) (λ_ _ _=>no 0) (no 0) (λ_ _=>no 0) (λ_ _=>no 0) (0:R) (λ_ _ _ _=>(0:R)) x
noncomputable def Ff (id:Nat) (x:V) (k:Nat->R):R:=V.rec (motive_1:=λ_=>R) (motive_2:=λ_=>R) (λ_ _=>no 0) (λ_=>no 0) (λ_ _=>no 0) (λ_ _=>no 0) (no 0) (λ_ _ _ _ _=>no 0) (no 0) (k) (no 0) (λ_ _ _=>no 0) (λ_=>no 0) (no 0) (λ_ _ _=>no 0) (no 0) (λ_ _=>no 0) (λ_ _=>no 0) (0:R) (λ_ _ _ _=>(0:R)) x
noncomputable def qp (id:Nat) (x:V) (k:Nat->R) (z:R):R:=V.rec (motive_1:=λ_=>R) (motive_2:=λ_=>R) (λ_ _=>no 0) (λ_=>no 0) (λ_ _=>no 0) (λ_ _=>no 0) (no 0) (λ_ _ _ _ _=>no 0) (no 0) (k) (z) (λ_ _ _=>no 0) (λ_=>no 0) (no 0) (λ_ _ _=>no 0) (no 0) (λ_ _=>no 0) (λ_ _=>no 0) (0:R) (λ_ _ _ _=>(0:R)) x
noncomputable def xJ (id:Nat) (x:V) (k:Nat->List V->R):R:=V.rec (motive_1:=λ_=>R) (motive_2:=λ_=>R) (λ_ _=>no 0) (λ_=>no 0) (λ_ _=>no 0) (λ_ _=>no 0) (no 0) (λ_ _ _ _ _=>no 0) (no 0) (λ_=>no 0) (no 0) (λf l _=>k f l) (λ_=>no 0) (no 0) (λ_ _ _=>no 0) (no 0) (λ_ _=>no 0) (λ_ _=>no 0) (0:R) (λ_ _ _ _=>(0:R)) x
noncomputable def js (id:Nat) (x:V) (k:List V->R):R:=V.rec (motive_1:=λ_=>R) (motive_2:=λ_=>R) (λ_ _=>no 0) (λ_=>no 0) (λ_ _=>no 0) (λ_ _=>no 0) (no 0) (λ_ _ _ _ _=>no 0) (no 0) (λ_=>no 0) (no 0) (λ_ _ _=>no 0) (λ_=>no 0) (no 0) (λ_ _ _=>no 0) (no 0) (λl _=>k l) (λ_ _=>no 0) (0:R) (λ_ _ _ _=>(0:R)) x
noncomputable def vIf (id t:Nat) (x:V) (k:V->R):R:=V.rec (motive_1:=λ_=>R) (motive_2:=λ_=>R) (λ_ _=>no 0) (λ_=>no 0) (λ_ _=>no 0) (λ_ _=>no 0) (no 0) (λ_ _ _ _ _=>no 0) (no 0) (λ_=>no 0) (no 0) (λ_ _ _=>no 0) (λ_=>no 0) (no 0) (λt' v _=>aD (YK t' t) (k v) (no 0)) (no 0) (λ_ _=>no 0) (λ_ _=>no 0) (0:R) (λ_ _ _ _=>(0:R)) x
noncomputable def ym (id:Nat) (x:V) (k:List V->R):R:=V.rec (motive_1:=λ_=>R) (motive_2:=λ_=>R) (λ_ _=>no 0) (λ_=>no 0) (λ_ _=>no 0) (λ_ _=>no 0) (no 0) (λ_ _ _ _ _=>no 0) (no 0) (λ_=>no 0) (no 0) (λ_ _ _=>no 0) (λ_=>no 0) (no 0) (λ_ _ _=>no 0) (no 0) (λ_ _=>no 0) (λl _=>k l) (0:R) (λ_ _ _ _=>(0:R)) x
noncomputable def nth (id:Nat) (l:List V):Nat->(V->R)->R:=List.rec (motive:=λ_=>Nat->(V->R)->R) (λ_ _=>no 0) (λv _ ih i k=>Nat.rec (motive:=λ_=>R) (k v) (λj _=>ih j k) i) l
noncomputable def takeN (id:Nat) (l:List V):Nat->(List V->R)->R:=List.rec (motive:=λ_=>Nat->(List V->R)->R) (λi k=>Nat.rec (motive:=λ_=>R) (k []) (λ_ _=>no 0) i) (λv _ ih i k=>Nat.rec (motive:=λ_=>R) (k []) (λj _=>ih j λr=>k (v :: r)) i) l
noncomputable def fj (id:Nat) (l:List V):Nat->(List V->R)->R:=List.rec (motive:=λ_=>Nat->(List V->R)->R) (λi k=>Nat.rec (motive:=λ_=>R) (k []) (λ_ _=>no 0) i) (λv l ih i k=>Nat.rec (motive:=λ_=>R) (k (v :: l)) (λj _=>ih j k) i) l
noncomputable def jf (l m:List V):(List V->R)->R:=List.rec (motive:=λ_=>(List V->R)->R) (λk=>k m) (λv _ ih k=>ih λr=>k (v :: r)) l
noncomputable def over (id:Nat) (m:List V):List V->(List V->R)->R:=List.rec (motive:=λ_=>List V->(List V->R)->R) (λl k=>k l) (λx _ ih l k=>List.rec (motive:=λ_=>R) (no 0) (λ_ r _=>ih r λq=>k (x :: q)) l) m
noncomputable def setAt (id:Nat) (m l:List V):Nat->(List V->R)->R:=List.rec (motive:=λ_=>Nat->(List V->R)->R) (λi k=>Nat.rec (motive:=λ_=>R) (over id m [] k) (λ_ _=>no 0) i) (λv l ih i k=>Nat.rec (motive:=λ_=>R) (over id m (v :: l) k) (λj _=>ih j λr=>k (v :: r)) i) l
noncomputable def dL (l:List V):Nat:=List.rec (motive:=λ_=>Nat) 0 (λ_ _ ih=>WI ih) l
noncomputable def T8 (m:List V) (n:Nat):(List V->R)->R:=Nat.rec (motive:=λ_=>(List V->R)->R) (λk=>k []) (λ_ ih k=>ih λr=>jf m r k) n
noncomputable def dX (id:Nat) (x:V) (k:R):R:=V.rec (motive_1:=λ_=>R) (motive_2:=λ_=>R) (λ_ _=>k) (λ_=>k) (λ_ _=>k) (λ_ _=>k) (k) (λ_ _ _ _ _=>k) (k) (λ_=>k) (k) (λ_ _ _=>k) (λ_=>k) (k) (λ_ _ _=>k) (k) (λ_ _=>no 0) (λ_ _=>no 0) (0:R) (λ_ _ _ _=>(0:R)) x
noncomputable def aZ (id:Nat) (l:List V) (k:R):R:=List.rec (motive:=λ_=>R) k (λv _ ih=>dX id v ih) l
noncomputable def ig (id:Nat) (l:List V):(Nat->Nat->R)->R:=List.rec (motive:=λ_=>(Nat->Nat->R)->R) (λk=>k 0 0) (λv _ ih k=>cw id v λkd x=>aD (YK kd 4) (ih λlen n=>av (YW x (Yh 256 n)) λn'=>av (WI len) λlen'=>k len' n') (no 0)) l
noncomputable def pU (len:Nat):Nat->(List V->R)->R:=Nat.rec (motive:=λ_=>Nat->(List V->R)->R) (λ_ k=>k []) (λ_ ih n k=>av (Ys n 256) λx=>av (Wf n 256) λn'=>ih n' λr=>k (.int 4 x :: r)) len
noncomputable def dN (id:Nat) (x:V) (k:List V->R):R:=V.rec (motive_1:=λ_=>R) (motive_2:=λ_=>R) (λkd n=>k [.int kd n]) (λb=>k [.bool b]) (λl n=>k [.str l n]) (λb o=>k [.ptr b o]) (k [.jk]) (λb o l c s=>k [.slice b o l c s]) (k [.aB]) (λb=>k [.map b]) (k [.xd]) (λf l ih=>k [.func f l]) (λb=>k [.sK b]) (k [.tz]) (λt v ih=>k [.iface t v]) (k [.Eb]) (λl _=>k l) (λ_ _=>no 0) (0:R) (λ_ _ _ _=>(0:R)) x
noncomputable def rJ (id:Nat) (b:eB) (kc:List V->R) (kb:Nat->Nat->R):R:=eB.rec (motive:=λ_=>R) (no 0) kc kb (λ_=>no 0) (no 0) (λ_ _ _ _ _ _=>no 0) (λ_=>no 0) b
noncomputable def ZP (id:Nat) (b:eB) (kc:List V->R) (kb:Nat->Nat->R) (kv:List V->R):R:=eB.rec (motive:=λ_=>R) (no 0) kc kb (λ_=>no 0) (no 0) (λ_ _ _ _ _ _=>no 0) kv b
noncomputable def rI (id:Nat) (b:eB) (km:List (V × V)->R):R:=eB.rec (motive:=λ_=>R) (no 0) (λ_=>no 0) (λ_ _=>no 0) km (no 0) (λ_ _ _ _ _ _=>no 0) (λ_=>no 0) b
noncomputable def eP (b:eB) (k:Nat->Nat->Env->List Slot->RC->RC->R):R:=eB.rec (motive:=λ_=>R) (no 9) (λ_=>no 9) (λ_ _=>no 9) (λ_=>no 9) (no 9) k (λ_=>no 9) b
noncomputable def dj (H:Heap) (b:Nat) (k:eB->R):R:=Heap.rec (motive:=λ_=>R) (λ_ _ t=>k (HT.get t b)) H
noncomputable def cQ (id:Nat) (H:Heap) (b:Nat) (x:eB) (k:Heap->R):R:=Heap.rec (motive:=λ_=>R) (λn bj t=>aD (Yy b n) (HT.set x t b λt'=>aD (YS bj b) (k (.mk n bj t')) (k (.mk n b t'))) (no 0)) H
noncomputable def cm (H:Heap) (x:eB) (k:Nat->Heap->R):R:=Heap.rec (motive:=λ_=>R) (λn bj t=>HT.set x t n λt'=>av (WI n) λn'=>k n (.mk n' bj t')) H
noncomputable def nv (id:Nat) (H:Heap) (b off:Nat) (k:V->R):R:=dj H b λbl=>rJ id bl (λl=>nth id l off k) λlen n=>aD (Yy off len) (av (Qu (Yz n (Yh 8 off)) 255) λx=>k (.int 4 x)) (no 0)
noncomputable def JJ (id:Nat) (H:Heap) (b off:Nat) (k:V->R):R:=dj H b λbl=>ZP id bl (λl=>nth id l off k) (λlen n=>aD (Yy off len) (av (Qu (Yz n (Yh 8 off)) 255) λx=>k (.int 4 x)) (no 0)) λl=>nth id l off λv=>dX id v (k v)
noncomputable def Es (id:Nat) (H:Heap) (b off n:Nat) (k:List V->R):R:=dj H b λbl=>ZP id bl (λl=>fj id l off λr=>takeN id r n k) (λlen x=>aD (YS (YW off n) len) (pU n (Yz x (Yh 8 off)) k) (no 0)) λl=>fj id l off λr=>takeN id r n λq=>aZ id q (k q)
noncomputable def eC (id:Nat) (H:Heap) (b off n:Nat) (k:List V->R):R:=dj H b λbl=>rJ id bl (λl=>fj id l off λr=>takeN id r n k) λlen x=>aD (YS (YW off n) len) (pU n (Yz x (Yh 8 off)) k) (no 0)
noncomputable def ma (id:Nat) (H:Heap) (b off n:Nat) (k:Nat->R):R:=dj H b λbl=>rJ id bl (λl=>fj id l off λr=>takeN id r n λq=>ig id q λ_ x=>k x) λlen x=>aD (YS (YW off n) len) (av (Ys (Yz x (Yh 8 off)) (YA3 256 n)) k) (no 0)
noncomputable def dU (id:Nat) (H:Heap) (b off:Nat) (m:List V) (k:Heap->R):R:=dj H b λbl=>rJ id bl (λl=>aZ id m (setAt id m l off λl'=>cQ id H b (.cells l') k))
 λlen x=>ig id m λml mx=>aD (YS (YW off ml) len)
  (av (YW (Ys x (YA3 256 off)) (Yq (YW mx (Yq (Yz x (Yh 8 (YW off ml))) (Yh 8 ml))) (Yh 8 off))) λx'=>cQ id H b (.bytes len x') k) (no 0)
noncomputable def iS (id:Nat) (f:BF):Nat->Nat->(Nat->R)->R:=BF.rec (motive:=λ_=>Nat->Nat->(Nat->R)->R)
 (λm a b k=>av (Ys (YW a b) m) k)
 (λm a b k=>av (Ys (YW a (Wv m b)) m) k)
 (λm a b k=>av (Ys (Yh a b) m) k)
 (λa b k=>av (Qu a b) k)
 (λa b k=>av (Nat.lor a b) k)
 (λa b k=>av (YM2 a b) k)
 (λm a b k=>av (Qu a (YM2 b (Nat.pred m))) k)
 (λm bits a b k=>aD (YS b bits) (av (Ys (Yq a b) m) k) (aD (Yy b 9223372036854775808) (k 0) (no 0)))
 (λhalf bits a b k=>aD (Yy a half) (aD (YS b bits) (av (Yz a b) k) (aD (Yy b 9223372036854775808) (k 0) (no 0))) (no 0))
 (λhalf a b k=>aD (Yy a half) (aD (Yy b half) (aD (YK b 0) (no 0) (av (Wf a b) k)) (no 0)) (no 0))
 (λhalf a b k=>aD (Yy a half) (aD (Yy b half) (aD (YK b 0) (no 0) (av (Ys a b) k)) (no 0)) (no 0))
 f
noncomputable def dW (f:CF):Nat->Nat->Bool:=CF.rec (motive:=λ_=>Nat->Nat->Bool)
 (λa b=>YK a b) (λa b=>Bool.rec true false (YK a b))
 (λo m a b=>Yy (Ys (YW a o) m) (Ys (YW b o) m))
 (λo m a b=>YS (Ys (YW a o) m) (Ys (YW b o) m))
 (λo m a b=>Yy (Ys (YW b o) m) (Ys (YW a o) m))
 (λo m a b=>YS (Ys (YW b o) m) (Ys (YW a o) m))
 f
abbrev K:=V->Heap->R
abbrev cW:=V->List V->Heap->K->R
noncomputable def aeW (id:Nat) (ph:cW) (e:Env) (H:Heap) (k:K):R:=no 0
noncomputable def aeX (x:Arg) (id:Nat) (ph:cW) (e:Env) (H:Heap) (k:K):R:=aH x e λv=>k v H
noncomputable def aa9 (c x y:Arg) (id:Nat) (ph:cW) (e:Env) (H:Heap) (k:K):R:=aH c e λc=>eJ id c λb=>aD b (aH x e λv=>k v H) (aH y e λv=>k v H)
noncomputable def aa8 (z:List V) (id:Nat) (ph:cW) (e:Env) (H:Heap) (k:K):R:=cm H (.cells z) λn H=>k (.ptr n 0) H
noncomputable def aa7 (n:Nat) (id:Nat) (ph:cW) (e:Env) (H:Heap) (k:K):R:=cm H (.bytes n 0) λn H=>k (.ptr n 0) H
noncomputable def Na (x:Arg) (id:Nat) (ph:cW) (e:Env) (H:Heap) (k:K):R:=aH x e λv=>dN id v λl=>aZ id l (cm H (.cells l) λn H=>k (.ptr n 0) H)
noncomputable def jW (id:Nat) (e:Env) (parts:List (Nat × Nat × Arg)):List V->(List V->R)->R:=List.rec (motive:=λ_=>List V->(List V->R)->R) (λz k=>k z)
 (λp _ ih z k=>YG2 (motive:=λ_=>R) (λoff q=>YG2 (motive:=λ_=>R) (λsize a=>aH a e λv=>dN id v λl=>aD (YK (dL l) size) (setAt id l z off λz'=>ih z' k) (no 0)) q) p) parts
noncomputable def Nb (zero:List V) (parts:List (Nat × Nat × Arg)) (id:Nat) (ph:cW) (e:Env) (H:Heap) (k:K):R:=jW id e parts zero λl=>k (.agg l) H
noncomputable def AR (u8:Bool) (len:Nat) (zero:List V) (parts:List (Nat × Nat × Arg)) (id:Nat) (ph:cW) (e:Env) (H:Heap) (k:K):R:=
 jW id e parts zero λl=>aD u8 (ig id l λln n=>cm H (.bytes ln n) λb H=>k (.slice b 0 len (WI len) 0) H) (aZ id l (cm H (.cells l) λb H=>k (.slice b 0 len (WI len) 0) H))
noncomputable def qG (a:Arg) (id:Nat) (ph:cW) (e:Env) (H:Heap) (k:K):R:=aH a e λa=>ei id a λb o=>JJ id H b o λv=>k v H
noncomputable def qH (n:Nat) (a:Arg) (id:Nat) (ph:cW) (e:Env) (H:Heap) (k:K):R:=aH a e λa=>ei id a λb o=>Es id H b o n λl=>k (.agg l) H
noncomputable def uR (a x:Arg) (id:Nat) (ph:cW) (e:Env) (H:Heap) (k:K):R:=aH a e λa=>ei id a λb o=>aH x e λx=>dX id x (dU id H b o [x] λH=>k (.cV []) H)
noncomputable def uS (n:Nat) (a x:Arg) (id:Nat) (ph:cW) (e:Env) (H:Heap) (k:K):R:=aH a e λa=>ei id a λb o=>aH x e λx=>js id x λl=>aD (YK (dL l) n) (dU id H b o l λH=>k (.cV []) H) (no 0)
noncomputable def Jg (x:Arg) (id:Nat) (ph:cW) (e:Env) (H:Heap) (k:K):R:=aH x e λv=>V.rec (motive_1:=λ_=>R) (motive_2:=λ_=>R) (λkd n=>k (.int kd n) H) (λb=>k (.bool b) H) (λl n=>k (.str l n) H) (λb o=>k (.ptr b o) H) (no 0) (λb o l c s=>k (.slice b o l c s) H) (k .aB H) (λb=>k (.map b) H) (k .xd H) (λf l ih=>k (.func f l) H) (λb=>k (.sK b) H) (no 0) (λt v ih=>k (.iface t v) H) (no 0) (λl ih=>k (.agg l) H) (λl ih=>k (.cV l) H) (0:R) (λ_ _ _ _=>(0:R)) v
noncomputable def Ke (kd ky:Nat) (f:BF) (x y:Arg) (id:Nat) (ph:cW) (e:Env) (H:Heap) (k:K):R:=aH x e λx=>cw id x λk1 a=>aH y e λy=>cw id y λk2 b=>aD (YK k1 kd) (aD (YK k2 ky) (iS id f a b λr=>k (.int kd r) H) (no 0)) (no 0)
noncomputable def Xi (kd:Nat) (f:CF) (x y:Arg) (id:Nat) (ph:cW) (e:Env) (H:Heap) (k:K):R:=aH x e λx=>cw id x λk1 a=>aH y e λy=>cw id y λk2 b=>aD (YK k1 kd) (aD (YK k2 kd) (aD (dW f a b) (k (.bool true) H) (k (.bool false) H)) (no 0)) (no 0)
noncomputable def C0 (x y:Arg) (id:Nat) (ph:cW) (e:Env) (H:Heap) (k:K):R:=aH x e λx=>dZ id x λl1 n1=>aH y e λy=>dZ id y λl2 n2=>av (YW l1 l2) λl=>aD (Yy l 9223372036854775808) (av (YW n1 (Yq n2 (Yh 8 l1))) λn=>k (.str l n) H) (no 0)
noncomputable def Nt (neg:Bool) (x y:Arg) (id:Nat) (ph:cW) (e:Env) (H:Heap) (k:K):R:=aH x e λx=>dZ id x λl1 n1=>aH y e λy=>dZ id y λl2 n2=>aD (YK l1 l2) (aD (YK n1 n2) (aD neg (k (.bool false) H) (k (.bool true) H)) (k (.bool neg) H)) (k (.bool neg) H)
noncomputable def fY (id:Nat) (x:V) (k:Nat->R):R:=V.rec (motive_1:=λ_=>R) (motive_2:=λ_=>R) (λ_ _=>no 0) (λb=>aD b (k 2) (k 3)) (λ_ _=>no 0) (λ_ _=>k 11) (k 10) (λ_ _ _ _ _=>k 21) (k 20) (λ_=>k 31) (k 30) (λ_ _ _=>k 41) (λ_=>no 0) (k 40) (λ_ _ _=>k 51) (k 50) (λ_ _=>no 0) (λ_ _=>no 0) (0:R) (λ_ _ _ _=>(0:R)) x
noncomputable def SZ (kc:Nat) (neg:Bool) (x y:Arg) (id:Nat) (ph:cW) (e:Env) (H:Heap) (k:K):R:=aH x e λx=>fY id x λa=>aH y e λy=>fY id y λb=>aD (YK (Wf a 10) kc) (aD (YK (Wf b 10) kc) (aD (YK a b) (aD (YK (Ys a 10) 1) (no 0) (aD neg (k (.bool false) H) (k (.bool true) H))) (k (.bool neg) H)) (no 0)) (no 0)
noncomputable def Nn (x:Arg) (id:Nat) (ph:cW) (e:Env) (H:Heap) (k:K):R:=aH x e λx=>eJ id x λb=>aD b (k (.bool false) H) (k (.bool true) H)
noncomputable def Gp (src dst mode c:Nat) (x:Arg) (id:Nat) (ph:cW) (e:Env) (H:Heap) (k:K):R:=aH x e λx=>cw id x λk1 a=>aD (YK k1 src) (Nat.rec (motive:=λ_=>R) (av (Ys a c) λr=>k (.int dst r) H) (λ_ _=>aD (Yy a mode) (k (.int dst a) H) (av (YW a c) λr=>k (.int dst r) H)) mode) (no 0)
noncomputable def vZ (x:Arg) (id:Nat) (ph:cW) (e:Env) (H:Heap) (k:K):R:=aH x e λx=>bh id x (λb o l _ _=>ma id H b o l λn=>k (.str l n) H) (k (.str 0 0) H)
noncomputable def v7 (x:Arg) (id:Nat) (ph:cW) (e:Env) (H:Heap) (k:K):R:=aH x e λx=>dZ id x λl n=>aD (YS l 16777216) (cm H (.bytes l n) λb H=>k (.slice b 0 l 0 1) H) (no 0)
noncomputable def Xt (t:Nat) (x:Arg) (id:Nat) (ph:cW) (e:Env) (H:Heap) (k:K):R:=aH x e λx=>vIf id t x λv=>k (.cV [v,.bool true]) H
noncomputable def Xn (t:Nat) (x:Arg) (id:Nat) (ph:cW) (e:Env) (H:Heap) (k:K):R:=aH x e λv=>k (.iface t v) H
noncomputable def Nr (f:Nat) (caps:List Arg) (id:Nat) (ph:cW) (e:Env) (H:Heap) (k:K):R:=om caps e λl=>k (.func f l) H
noncomputable def Xo (id:Nat) (ph:cW) (e:Env) (H:Heap) (k:K):R:=cm H (.map []) λb H=>k (.map b) H
noncomputable def wg (u8:Bool) (zero:List V) (l c:Arg) (id:Nat) (ph:cW) (e:Env) (H:Heap) (k:K):R:=aH l e λl=>cw id l λkl l=>aH c e λc=>cw id c λkc c=>aD (YS 3 kl) (aD (YS 3 kc) (aD (YS l c) (aD (YS c 16777216)
 (aD u8 (cm H (.bytes c 0) λb H=>av (WI c) λc1=>k (.slice b 0 l c1 0) H) (T8 zero c λr=>aZ id r (cm H (.cells r) λb H=>av (WI c) λc1=>k (.slice b 0 l c1 0) H))) (no 0)) (no 0)) (no 0)) (no 0)
noncomputable def gi (id:Nat) (x:Option Arg) (e:Env) (d:Nat) (k:Nat->R):R:=Option.rec (motive:=λ_=>R) (k d) (λa=>aH a e λv=>cw id v λkd n=>aD (YS 3 kd) (aD (Yy n 9223372036854775808) (k n) (no 0)) (no 0)) x
noncomputable def Xr (x:Arg) (lo hi:Option Arg) (id:Nat) (ph:cW) (e:Env) (H:Heap) (k:K):R:=aH x e λx=>dZ id x λlen n=>gi id hi e len λh=>gi id lo e 0 λl=>aD (YS l h) (aD (YS h len) (av (Wv h l) λd=>av (Ys (Yz n (Yh 8 l)) (YA3 256 d)) λr=>k (.str d r) H) (no 0)) (no 0)
noncomputable def Xs (size:Nat) (x:Arg) (lo hi mx:Option Arg) (id:Nat) (ph:cW) (e:Env) (H:Heap) (k:K):R:=aH x e λx=>bh id x (λb o len cp sz=>
 gi id lo e 0 λl=>gi id hi e len λh=>aD (YS l h) (av (Wv h l) λd=>
  Option.rec (motive:=λ_=>R)
   (Nat.rec (motive:=λ_=>R)
    (aD (YS h len) (aD (YK sz size) (av (YW o (Yh l size)) λo'=>k (.slice b o' d 0 sz) H) (no 0)) (no 0))
    (λq _=>aD (YS h q) (aD (YK q l) (k (.slice b o d 1 0) H) (av (YW o (Yh l size)) λo'=>av (WI (Wv q l)) λc'=>k (.slice b o' d c' 0) H)) (no 0)) cp)
   (λm=>gi id (some m) e 0 λm=>aD (YS h m) (aD (YS m (Nat.rec (motive:=λ_=>Nat) len (λq _=>q) cp)) (aD (YK m l) (k (.slice b o d 1 0) H) (av (YW o (Yh l size)) λo'=>av (WI (Wv m l)) λc'=>k (.slice b o' d c' 0) H)) (no 0)) (no 0)) mx) (no 0))
 (gi id lo e 0 λl=>gi id hi e 0 λh=>gi id mx e 0 λm=>aD (YK l 0) (aD (YK h 0) (aD (YK m 0) (k .aB H) (no 0)) (no 0)) (no 0))
noncomputable def Xq (n size:Nat) (x:Arg) (lo hi mx:Option Arg) (id:Nat) (ph:cW) (e:Env) (H:Heap) (k:K):R:=aH x e λx=>ei id x λb o=>gi id mx e n λm=>gi id hi e n λh=>gi id lo e 0 λl=>aD (YS l h) (aD (YS h m) (aD (YS m n) (av (Wv h l) λd=>aD (YK m l) (k (.slice b o d 1 0) H) (av (YW o (Yh l size)) λo'=>av (WI (Wv m l)) λc'=>k (.slice b o' d c' 0) H)) (no 0)) (no 0)) (no 0)
noncomputable def Ng (off:Nat) (x:Arg) (id:Nat) (ph:cW) (e:Env) (H:Heap) (k:K):R:=aH x e λx=>ei id x λb o=>av (YW o off) λo'=>k (.ptr b o') H
noncomputable def Nh (off:Nat) (x:Arg) (id:Nat) (ph:cW) (e:Env) (H:Heap) (k:K):R:=aH x e λx=>js id x λl=>nth id l off λv=>k v H
noncomputable def Ni (off n:Nat) (x:Arg) (id:Nat) (ph:cW) (e:Env) (H:Heap) (k:K):R:=aH x e λx=>js id x λl=>fj id l off λr=>takeN id r n λq=>k (.agg q) H
noncomputable def idx (id:Nat) (i:Arg) (e:Env) (len:Nat) (k:Nat->R):R:=aH i e λv=>cw id v λkd n=>aD (YS 3 kd) (aD (Yy n len) (aD (Yy n 9223372036854775808) (k n) (no 0)) (no 0)) (no 0)
noncomputable def Xj (len size:Nat) (x i:Arg) (id:Nat) (ph:cW) (e:Env) (H:Heap) (k:K):R:=aH x e λx=>ei id x λb o=>idx id i e len λn=>av (YW o (Yh n size)) λo'=>k (.ptr b o') H
noncomputable def Xm (size:Nat) (x i:Arg) (id:Nat) (ph:cW) (e:Env) (H:Heap) (k:K):R:=aH x e λx=>lH id x λb o len _ _=>idx id i e len λn=>av (YW o (Yh n size)) λo'=>k (.ptr b o') H
noncomputable def Xl (x i:Arg) (id:Nat) (ph:cW) (e:Env) (H:Heap) (k:K):R:=aH x e λx=>dZ id x λlen m=>idx id i e len λn=>av (Qu (Yz m (Yh 8 n)) 255) λr=>k (.int 4 r) H
noncomputable def Xk (len size:Nat) (agg:Bool) (x i:Arg) (id:Nat) (ph:cW) (e:Env) (H:Heap) (k:K):R:=aH x e λx=>js id x λl=>idx id i e len λn=>aD agg (fj id l (Yh n size) λr=>takeN id r size λq=>k (.agg q) H) (nth id l (Yh n size) λv=>k v H)
noncomputable def Jn (id:Nat) (ks:Bool) (x y:V) (k:Bool->R):R:=V.rec (motive_1:=λ_=>R) (motive_2:=λ_=>R) (λk1 a=>cw id y λk2 b=>aD ks (no 0) (aD (YK k1 k2) (k (YK a b)) (no 0))) (λ_=>no 0) (λl1 a=>dZ id y λl2 b=>aD ks (aD (YK l1 l2) (k (YK a b)) (k false)) (no 0)) (λ_ _=>no 0) (no 0) (λ_ _ _ _ _=>no 0) (no 0) (λ_=>no 0) (no 0) (λ_ _ _=>no 0) (λ_=>no 0) (no 0) (λ_ _ _=>no 0) (no 0) (λ_ _=>no 0) (λ_ _=>no 0) (0:R) (λ_ _ _ _=>(0:R)) x
noncomputable def ui (id:Nat) (ks:Bool) (es:List (V × V)) (x:V) (f:V->R) (z:R):R:=List.rec (motive:=λ_=>R) z (λp _ ih=>YG2 (motive:=λ_=>R) (λa v=>Jn id ks x a λb=>aD b (f v) ih) p) es
noncomputable def EP (id:Nat) (ks:Bool) (es:List (V × V)) (x y:V):(List (V × V)->R)->R:=List.rec (motive:=λ_=>(List (V × V)->R)->R) (λk=>k [(x,y)]) (λp l ih k=>YG2 (motive:=λ_=>R) (λa v=>Jn id ks x a λb=>aD b (k ((a,y):: l)) (ih λr=>k ((a,v):: r))) p) es
noncomputable def aa6 (id:Nat) (ks:Bool) (es:List (V × V)) (x:V):(List (V × V)->R)->R:=List.rec (motive:=λ_=>(List (V × V)->R)->R) (λk=>k []) (λp l ih k=>YG2 (motive:=λ_=>R) (λa v=>Jn id ks x a λb=>aD b (k l) (ih λr=>k ((a,v):: r))) p) es
noncomputable def Np (ks:Bool) (zero:V) (ok:Bool) (m x:Arg) (id:Nat) (ph:cW) (e:Env) (H:Heap) (k:K):R:=aH m e λm=>aH x e λx=>
 qp id m (λb=>dj H b λbl=>rI id bl λes=>ui id ks es x (λv=>aD ok (k (.cV [v,.bool true]) H) (k v H)) (aD ok (k (.cV [zero,.bool false]) H) (k zero H))) (aD ok (k (.cV [zero,.bool false]) H) (k zero H))
noncomputable def isKey (id:Nat) (x:V) (k:R):R:=V.rec (motive_1:=λ_=>R) (motive_2:=λ_=>R) (λ_ _=>k) (λ_=>no 0) (λ_ _=>k) (λ_ _=>no 0) (no 0) (λ_ _ _ _ _=>no 0) (no 0) (λ_=>no 0) (no 0) (λ_ _ _=>no 0) (λ_=>no 0) (no 0) (λ_ _ _=>no 0) (no 0) (λ_ _=>no 0) (λ_ _=>no 0) (0:R) (λ_ _ _ _=>(0:R)) x
noncomputable def Ns (ks:Bool) (m x y:Arg) (id:Nat) (ph:cW) (e:Env) (H:Heap) (k:K):R:=aH m e λm=>aH x e λx=>aH y e λy=>Ff id m λb=>dj H b λbl=>rI id bl λes=>isKey id x (EP id ks es x y λes'=>cQ id H b (.map es') λH=>k (.cV []) H)
noncomputable def Nq (ks:Bool) (m x:Arg) (id:Nat) (ph:cW) (e:Env) (H:Heap) (k:K):R:=aH m e λm=>aH x e λx=>Ff id m λb=>dj H b λbl=>rI id bl λes=>aa6 id ks es x λes'=>cQ id H b (.map es') λH=>k (.cV []) H
noncomputable def Nf (x:Arg) (i:Nat) (id:Nat) (ph:cW) (e:Env) (H:Heap) (k:K):R:=aH x e λx=>ym id x λl=>nth id l i λv=>k v H
noncomputable def Nc (f:Nat) (args:List Arg) (id:Nat) (ph:cW) (e:Env) (H:Heap) (k:K):R:=om args e λl=>ph (.func f []) l H k
noncomputable def Gk (x:Arg) (args:List Arg) (id:Nat) (ph:cW) (e:Env) (H:Heap) (k:K):R:=aH x e λx=>om args e λl=>ph x l H k
noncomputable def db (id:Nat) (size:Nat) (H:Heap) (x:V) (k:Nat->List V->R):R:=V.rec (motive_1:=λ_=>R) (motive_2:=λ_=>R) (λ_ _=>no 0) (λ_=>no 0) (λl n=>aD (YK size 1) (pU l n λm=>k l m) (no 0)) (λ_ _=>no 0) (no 0) (λb o l _ _=>Nat.rec (motive:=λ_=>R) (k 0 []) (λ_ _=>Es id H b o (Yh l size) λm=>k l m) l) (k 0 []) (λ_=>no 0) (no 0) (λ_ _ _=>no 0) (λ_=>no 0) (no 0) (λ_ _ _=>no 0) (no 0) (λ_ _=>no 0) (λ_ _=>no 0) (0:R) (λ_ _ _ _=>(0:R)) x
noncomputable def xb (id:Nat) (H:Heap) (x:V) (k:Nat->Nat->R):R:=V.rec (motive_1:=λ_=>R) (motive_2:=λ_=>R) (λ_ _=>no 0) (λ_=>no 0) (λl n=>k l n) (λ_ _=>no 0) (no 0) (λb o l _ _=>ma id H b o l λm=>k l m) (k 0 0) (λ_=>no 0) (no 0) (λ_ _ _=>no 0) (λ_=>no 0) (no 0) (λ_ _ _=>no 0) (no 0) (λ_ _=>no 0) (λ_ _=>no 0) (0:R) (λ_ _ _ _=>(0:R)) x
noncomputable def rF (id size:Nat) (n:Nat) (new:List V) (b o len cp sz:Nat) (H:Heap) (k:K):R:=aZ id new (av (YW len n) λneed=>aD (YS need 1073741824) (
 Nat.rec (motive:=λ_=>R)
  (aD (YK sz size) (aD (YK o 0) (dj H b λbl=>rJ id bl (λl=>aD (YK (dL l) (Yh len size)) (jf l new λl'=>cQ id H b .dead λH=>cm H (.cells l') λb' H=>k (.slice b' 0 need 0 size) H) (no 0)) (λ_ _=>no 0)) (no 0)) (no 0))
  (λq _=>aD (YS need q) (dU id H b (YW o (Yh len size)) new λH=>k (.slice b o need cp sz) H) (eC id H b o (Yh len size) λl=>aZ id l (jf l new λl'=>cm H (.cells l') λb' H=>k (.slice b' 0 need 0 size) H))) cp) (no 0))
noncomputable def Jf (size:Nat) (s x:Arg) (id:Nat) (e:Env) (H:Heap) (k:K):R:=aH s e λs=>aH x e λx=>db id size H x λn new=>
 bh id s (λb o len cp sz=>Nat.rec (motive:=λ_=>R) (k s H) (λ_ _=>rF id size n new b o len cp sz H k) n)
  (Nat.rec (motive:=λ_=>R) (k s H) (λ_ _=>aZ id new (aD (YS n 1073741824) (cm H (.cells new) λb' H=>k (.slice b' 0 n 0 size) H) (no 0))) n)
noncomputable def JX (id:Nat) (n new:Nat) (b o len cp sz:Nat) (H:Heap) (k:K):R:=av (YW len n) λneed=>aD (YS need 1073741824) (
 Nat.rec (motive:=λ_=>R)
  (aD (YK sz 1) (aD (YK o 0) (dj H b λbl=>rJ id bl (λ_=>no 0) (λln m=>aD (YK ln len) (av (YW m (Yq new (Yh 8 len))) λm'=>cQ id H b .dead λH=>cm H (.bytes need m') λb' H=>k (.slice b' 0 need 0 1) H) (no 0))) (no 0)) (no 0))
  (λq _=>aD (YS need q) (no 0) (ma id H b o len λm=>av (YW m (Yq new (Yh 8 len))) λm'=>cm H (.bytes need m') λb' H=>k (.slice b' 0 need 0 1) H)) cp) (no 0)
noncomputable def Je (s x:Arg) (id:Nat) (e:Env) (H:Heap) (k:K):R:=aH s e λs=>aH x e λx=>xb id H x λn new=>
 bh id s (λb o len cp sz=>Nat.rec (motive:=λ_=>R) (k s H) (λ_ _=>JX id n new b o len cp sz H k) n)
  (Nat.rec (motive:=λ_=>R) (k s H) (λ_ _=>aD (YS n 1073741824) (cm H (.bytes n new) λb' H=>k (.slice b' 0 n 0 1) H) (no 0)) n)
noncomputable def aeV (u8:Bool) (size:Nat) (s x:Arg) (id:Nat) (ph:cW) (e:Env) (H:Heap) (k:K):R:=aD u8 (Je s x id e H k) (Jf size s x id e H k)
noncomputable def Od (id:Nat) (x:V) (k:Nat->R):R:=V.rec (motive_1:=λ_=>R) (motive_2:=λ_=>R) (λ_ _=>no 0) (λ_=>no 0) (λl _=>k l) (λ_ _=>no 0) (no 0) (λ_ _ l _ _=>k l) (k 0) (λ_=>no 0) (no 0) (λ_ _ _=>no 0) (λ_=>no 0) (no 0) (λ_ _ _=>no 0) (no 0) (λ_ _=>no 0) (λ_ _=>no 0) (0:R) (λ_ _ _ _=>(0:R)) x
noncomputable def KJ (a b:Nat) (k:Nat->R):R:=aD (YS a b) (k a) (k b)
noncomputable def ke (id n:Nat) (H:Heap) (k:K):R:=aD (Yy n 9223372036854775808) (k (.int 3 n) H) (no 0)
noncomputable def Nd (size:Nat) (d s:Arg) (id:Nat) (ph:cW) (e:Env) (H:Heap) (k:K):R:=aH d e λd=>aH s e λs=>bh id d (λb o dl _ _=>Od id s λsl=>KJ sl dl λn=>db id size H s λ_ l=>takeN id l (Yh n size) λm=>Nat.rec (motive:=λ_=>R) (k (.int 3 0) H) (λ_ _=>dU id H b o m λH=>ke id n H k) n) (db id size H s λ_ _=>k (.int 3 0) H)
noncomputable def Nl (x:Arg) (id:Nat) (ph:cW) (e:Env) (H:Heap) (k:K):R:=aH x e λx=>dZ id x λn _=>ke id n H k
noncomputable def Nj (x:Arg) (id:Nat) (ph:cW) (e:Env) (H:Heap) (k:K):R:=aH x e λx=>bh id x (λ_ _ n _ _=>ke id n H k) (ke id 0 H k)
noncomputable def KG (es:List (V × V)):Nat:=List.rec (motive:=λ_=>Nat) 0 (λ_ _ ih=>WI ih) es
noncomputable def Nk (x:Arg) (id:Nat) (ph:cW) (e:Env) (H:Heap) (k:K):R:=aH x e λx=>qp id x (λb=>dj H b λbl=>rI id bl λes=>av (KG es) λn=>ke id n H k) (ke id 0 H k)
noncomputable def Xh (x:Arg) (id:Nat) (ph:cW) (e:Env) (H:Heap) (k:K):R:=aH x e λx=>bh id x (λ_ _ _ cp _=>Nat.rec (motive:=λ_=>R) (no 0) (λq _=>aD (Yy q 9223372036854775808) (k (.int 3 q) H) (no 0)) cp) (k (.int 3 0) H)
noncomputable def eMm (kd o m:Nat) (mx:Bool) (x y:Arg) (id:Nat) (ph:cW) (e:Env) (H:Heap) (k:K):R:=aH x e λx=>cw id x λk1 a=>aH y e λy=>cw id y λk2 b=>aD (YK k1 kd) (aD (YK k2 kd) (aD (YS (Ys (YW a o) m) (Ys (YW b o) m)) (aD mx (k (.int kd b) H) (k (.int kd a) H)) (aD mx (k (.int kd a) H) (k (.int kd b) H))) (no 0)) (no 0)
noncomputable def Ek (o m:Nat) (mx:Bool) (a b:Nat) (k:Nat->R):R:=aD (YS (Ys (YW a o) m) (Ys (YW b o) m)) (aD mx (k b) (k a)) (aD mx (k a) (k b))
noncomputable def S6 (kd o m:Nat) (mx:Bool) (x y z:Arg) (id:Nat) (ph:cW) (e:Env) (H:Heap) (k:K):R:=aH x e λx=>cw id x λk1 a=>aH y e λy=>cw id y λk2 b=>aH z e λz=>cw id z λk3 c=>aD (YK k1 kd) (aD (YK k2 kd) (aD (YK k3 kd) (Ek o m mx a b λr=>Ek o m mx r c λq=>k (.int kd q) H) (no 0)) (no 0)) (no 0)
noncomputable def GU (id:Nat) (c:Nat) (x y:V) (k:Bool->R):R:=Nat.rec (motive:=λ_=>R)
 (eJ id x λa=>eJ id y λb=>aD a (k b) (aD b (k false) (k true)))
 (λc' _=>Nat.rec (motive:=λ_=>R) (cw id x λk1 a=>cw id y λk2 b=>aD (YK k1 k2) (k (YK a b)) (no 0))
  (λ_ _=>dZ id x λl1 a=>dZ id y λl2 b=>aD (YK l1 l2) (k (YK a b)) (k false)) c') c
noncomputable def yT (l:List Nat):Nat:=List.rec (motive:=λ_=>Nat) 0 (λ_ _ ih=>WI ih) l
noncomputable def jU (id:Nat) (cls:List Nat):List V->List V->(Bool->R)->R:=List.rec (motive:=λ_=>List V->List V->(Bool->R)->R) (λ_ _ k=>k true)
 (λc _ ih l m k=>List.rec (motive:=λ_=>R) (no 0) (λa l' _=>List.rec (motive:=λ_=>R) (no 0) (λb m' _=>GU id c a b λr=>aD r (ih l' m' k) (k false)) m) l) cls
noncomputable def Gj (cls:List Nat) (neg:Bool) (x y:Arg) (id:Nat) (ph:cW) (e:Env) (H:Heap) (k:K):R:=aH x e λx=>js id x λl=>aH y e λy=>js id y λm=>aD (YK (dL l) (yT cls)) (aD (YK (dL m) (yT cls)) (jU id cls l m λb=>aD b (aD neg (k (.bool false) H) (k (.bool true) H)) (k (.bool neg) H)) (no 0)) (no 0)
noncomputable def aM (o:kV):Nat->cW->Env->Heap->K->R:=kV.rec (motive:=λ_=>Nat->cW->Env->Heap->K->R)
 aeW aeX aa9 aa8 aa7 Na Nb AR qG qH uR uS Jg Ke Xi C0 Nt SZ Nn Gp vZ v7 Xn Nr Xo wg Xr Xs Xq Ng Nh Ni Xj Xm Xl Xk Np Ns Nq Nf Nc Gk aeV Nd Nl Nj Nk Xh eMm Gj S6 Xt o
noncomputable def bZ (d:Option Slot) (v:V) (e:Env) (k:Env->R):R:=Option.rec (motive:=λ_=>R) (k e) (λs=>Il s v e k) d
noncomputable def Ft (x:V) (want:Bool) (t f:R):R:=V.rec (motive_1:=λ_=>R) (motive_2:=λ_=>R) (λ_ _=>f) (λb=>Bool.rec (motive:=λ_=>R) (aD want f t) (aD want t f) b) (λ_ _=>f) (λ_ _=>f) (f) (λ_ _ _ _ _=>f) (f) (λ_=>f) (f) (λ_ _ _=>f) (λ_=>f) (f) (λ_ _ _=>f) (f) (λ_ _=>f) (λ_ _=>f) (0:R) (λ_ _ _ _=>(0:R)) x
noncomputable def uC (g:Option (Slot × Bool)) (e:Env) (t f:R):R:=Option.rec (motive:=λ_=>R) t (λp=>YG2 (motive:=λ_=>R) (λs b=>jz s e λv=>Ft v b t f) p) g
noncomputable def iT (ph:cW) (l:List Cc):Env->Heap->(Env->Heap->R)->R:=List.rec (motive:=λ_=>Env->Heap->(Env->Heap->R)->R) (λe H k=>k e H)
 (λo _ ih e H k=>Cc.rec (motive:=λ_=>R) (λid d g _ op=>uC g e (aM op id ph e H λv H'=>bZ d v e λe'=>ih e' H' k) (bZ d (.cV []) e λe'=>ih e' H k)) o) l
noncomputable def cH (ph:cW) (l:List Cc):Env->Heap->(Env->Heap->R)->R:=List.rec (motive:=λ_=>Env->Heap->(Env->Heap->R)->R) (λe H k=>k e H)
 (λo _ ih e H k=>Cc.rec (motive:=λ_=>R) (λid d g cls op=>uC g e
  (Nat.rec (motive:=λ_=>R)
   (aM op id ph e H λv H'=>bZ d v e λe'=>ih e' H' k)
   (λ_ _=>Heap.rec (motive:=λ_=>R) (λn bj t=>aM op id ph e (.mk n n t) λv H'=>Heap.rec (motive:=λ_=>R) (λn' wlo' t'=>aD (YS n wlo') (bZ d v e λe'=>ih e' (.mk n' bj t') k) (no 0)) H') H) cls)
  (bZ d (.cV []) e λe'=>ih e' H k)) o) l
abbrev KE:=Env->Heap->R
noncomputable def nS (id:Nat) (x:V) (k:Option Nat->R):R:=V.rec (motive_1:=λ_=>R) (motive_2:=λ_=>R) (λ_ _=>no 0) (λ_=>no 0) (λ_ _=>no 0) (λb _=>k (some b)) (no 0) (λb _ _ _ _=>k (some b)) (k none) (λ_=>no 0) (no 0) (λ_ _ _=>no 0) (λ_=>no 0) (no 0) (λ_ _ _=>no 0) (no 0) (λ_ _=>no 0) (λ_ _=>no 0) (0:R) (λ_ _ _ _=>(0:R)) x
noncomputable def dM (id bf b:Nat) (l:List (Nat × Nat)) (k:R):R:=List.rec (motive:=λ_=>R) k (λp _ ih=>YG2 (motive:=λ_=>R) (λi' b'=>aD (Nat.testBit bf i') ih (aD (YK b b') (no 0) ih)) p) l
noncomputable def yw (id:Nat) (b:eB) (k:R):R:=rJ id b (λl=>List.rec (motive:=λ_=>R) k (λv _ ih=>isKey id v ih) l) λ_ _=>no 0
noncomputable def bG (ph:cW) (n0:Nat) (l:List uD):Env->Heap->List (Nat × Nat)->List (Nat × Nat)->(Env->Heap->R)->R:=List.rec (motive:=λ_=>Env->Heap->List (Nat × Nat)->List (Nat × Nat)->(Env->Heap->R)->R) (λe H _ _ k=>k e H)
 (λo _ ih e H fl st k=>uD.rec (motive:=λ_=>R) (λid d g tag i bf ad op=>uC g e
  (Nat.rec (motive:=λ_=>R)
   (aM op id ph e H λv H'=>bZ d v e λe'=>ih e' H' fl st k)
   (λt1 _=>Nat.rec (motive:=λ_=>R)
    (Heap.rec (motive:=λ_=>R) (λn bj t=>aM op id ph e (.mk n n t) λv H'=>Heap.rec (motive:=λ_=>R) (λn' wlo' t'=>aD (YS n wlo') (bZ d v e λe'=>ih e' (.mk n' bj t') fl st k) (no 0)) H') H)
    (λt2 _=>aH ad e λa=>nS id a λob=>Nat.rec (motive:=λ_=>R)
     (Option.rec (motive:=λ_=>R) (no 0) (λb=>aD (Yy b n0) (dM id bf b st (aM op id ph e H λv H'=>bZ d v e λe'=>ih e' H ((i,b):: fl) st k)) (no 0)) ob)
     (λt3 _=>Nat.rec (motive:=λ_=>R)
      (Option.rec (motive:=λ_=>R) (aM op id ph e H λv H'=>bZ d v e λe'=>ih e' H' fl st k)
       (λb=>dM id bf b fl (aM op id ph e H λv H'=>bZ d v e λe'=>ih e' H' fl ((i,b):: st) k)) ob)
      (λ_ _=>Heap.rec (motive:=λ_=>R) (λn bj t=>aM op id ph e (.mk n n t) λv H'=>Heap.rec (motive:=λ_=>R) (λn' wlo' t'=>aD (YS n wlo') (yw id (HT.get t' n) (bZ d v e λe'=>ih e' (.mk n' bj t') ((i,n):: fl) st k)) (no 0)) H') H) t3) t2) t1) tag)
  (bZ d (.cV []) e λe'=>ih e' H fl st k)) o) l
noncomputable def Pr (x y:V) (k:R):R:=cw 0 x λk1 a=>cw 0 y λk2 b=>aD (YK k1 k2) (aD (YK a b) k (no 0)) (no 0)
noncomputable def qT (l:List V):List V->R->R:=List.rec (motive:=λ_=>List V->R->R) (λm k=>List.rec (motive:=λ_=>R) k (λ_ _ _=>no 0) m) (λa _ ih m k=>List.rec (motive:=λ_=>R) (no 0) (λb m' _=>Pr a b (ih m' k)) m) l
noncomputable def xx (x y:eB) (k:R):R:=rJ 0 x (λl=>rJ 0 y (λm=>qT l m k) λ_ _=>no 0) λ_ _=>no 0
noncomputable def uw (b:Nat) (x:eB) (hs:List Heap) (k:R):R:=List.rec (motive:=λ_=>R) k (λG _ ih=>dj G b λy=>xx y x ih) hs
noncomputable def ux (H H':Heap) (bs:List Nat) (k:R):R:=List.rec (motive:=λ_=>R) k (λb _ ih=>dj H b λx=>dj H' b λy=>xx y x ih) bs
noncomputable def fk (ph:cW) (n0:Nat) (l:List uD):Env->Heap->List Heap->List Nat->(Env->Heap->R)->R:=List.rec (motive:=λ_=>Env->Heap->List Heap->List Nat->(Env->Heap->R)->R) (λe H _ _ k=>k e H)
 (λo _ ih e H hs bs k=>uD.rec (motive:=λ_=>R) (λid d g tag _ _ ad op=>uC g e
  (aD (YK tag 5)
   (aH ad e λa=>nS id a λob=>Option.rec (motive:=λ_=>R) (no 0) (λb=>aD (Yy b n0) (dj H b λx=>uw b x hs (aM op id ph e H λv _=>bZ d v e λe'=>ih e' H hs (b :: bs) k)) (no 0)) ob)
   (aD (YK tag 6)
    (aM op id ph e H λv H'=>ux H H' bs (bZ d v e λe'=>ih e' H' (H :: hs) bs k))
    (aM op id ph e H λv H'=>bZ d v e λe'=>ih e' H' hs bs k)))
  (bZ d (.cV []) e λe'=>ih e' H hs bs k)) o) l
noncomputable def gZ (c:ai):Nat->cW->Env->Heap->KE->(Nat->KE)->R:=ai.rec (motive:=λ_=>Nat->cW->Env->Heap->KE->(Nat->KE)->R)
 (λ_ _ _ _ _ _=>no 8)
 (λ_ _ e H kn _=>kn e H)
 (λops _ ph e H kn _=>iT ph ops e H kn)
 (λops _ ph e H kn _=>cH ph ops e H kn)
 (λops _ ph e H kn _=>Heap.rec (motive:=λ_=>R) (λn _ _=>bG ph n ops e H [] [] kn) H)
 (λops _ ph e H kn _=>Heap.rec (motive:=λ_=>R) (λn _ _=>fk ph n ops e H [] [] kn) H)
 (λ_ _ iha ihb fuel ph e H kn kx=>iha fuel ph e H (λe H=>ihb fuel ph e H kn kx) kx)
 (λc _ _ iha ihb fuel ph e H kn kx=>aH c e λv=>eJ 0 v λb=>aD b (iha fuel ph e H kn kx) (ihb fuel ph e H kn kx))
 (λid _ iha fuel ph e H kn kx=>iha fuel ph e H kn λn e H=>aD (YK n (WI id)) (kn e H) (kx n e H))
 (λ_ iha fuel ph e H _ kx=>Nat.rec (motive:=λ_=>Env->Heap->R) (λ_ _=>no 3) (λ_ ih e H=>iha fuel ph e H ih kx) fuel e H)
 (λid _ _ e H _ kx=>kx (WI id) e H)
 (λ_ _ e H _ kx=>kx 0 e H)
 (λg ps assign body _ ph e H kn kx=>aH g e λg=>xJ 0 g λf caps=>Nat.rec (motive:=λ_=>R) (cm H .mark λ_ H=>cm H (.loop 0 0 e ps assign body) λb H=>ph (.func f caps) [.sK b] H λ_ H=>
  dj H b λbl=>eP bl λst j e' ps' as' bo'=>Nat.rec (motive:=λ_=>R) (cQ 0 H b (.loop 3 j e' ps' as' bo') λH=>Nat.rec (motive:=λ_=>R) (kn e H) (λm _=>kx m e H) j) (λs _=>Nat.rec (motive:=λ_=>R) (no 10) (λ_ _=>cQ 0 H b (.loop 3 j e' ps' as' bo') λH=>Nat.rec (motive:=λ_=>R) (kn e H) (λm _=>kx m e H) j) s) st) (λ_ _=>no 14) (Ys f 2))
 (λg ps assign body _ ph e H kn kx=>aH g e λg=>xJ 0 g λf caps=>Nat.rec (motive:=λ_=>R) (cm H (.loop 0 0 e ps assign body) λb H=>ph (.func f caps) [.sK b] H λ_ H=>
  dj H b λbl=>eP bl λst j e' ps' as' bo'=>Nat.rec (motive:=λ_=>R) (cQ 0 H b (.loop 3 j e' ps' as' bo') λH=>Nat.rec (motive:=λ_=>R) (kn e H) (λm _=>kx m e H) j) (λs _=>Nat.rec (motive:=λ_=>R) (no 10) (λ_ _=>cQ 0 H b (.loop 3 j e' ps' as' bo') λH=>Nat.rec (motive:=λ_=>R) (kn e H) (λm _=>kx m e H) j) s) st) (λ_ _=>no 14) (Ys f 2))
 c
inductive cF where
 | nat (g:List V->Heap->K->R)
 | code (ps:List Slot) (res:List RV) (c:ai)
noncomputable def abh (r:RV) (e:Env) (H:Heap) (k:V->R):R:=RV.rec (motive:=λ_=>R) (λs=>jz s e k) (λs=>jz s e λv=>ei 0 v λb o=>nv 0 H b o k) (λs n=>jz s e λv=>ei 0 v λb o=>eC 0 H b o n λl=>k (.agg l)) r
noncomputable def wG (l:List RV) (e:Env) (H:Heap):(List V->R)->R:=List.rec (motive:=λ_=>(List V->R)->R) (λk=>k []) (λr _ ih k=>abh r e H λv=>ih λq=>k (v :: q)) l
noncomputable def HZ (l:List V) (k:V->R):R:=List.rec (motive:=λ_=>R) (k (.cV [])) (λv r _=>List.rec (motive:=λ_=>R) (k v) (λ_ _ _=>k (.cV l)) r) l
noncomputable def fO (ps:List Slot):List V->Env->(Env->R)->R:=List.rec (motive:=λ_=>List V->Env->(Env->R)->R) (λl e k=>List.rec (motive:=λ_=>R) (k e) (λ_ _ _=>no 4) l)
 (λs _ ih l e k=>List.rec (motive:=λ_=>R) (no 5) (λv r _=>Il s v e λe'=>ih r e' k) l) ps
noncomputable def u0:V:=.cV []
noncomputable def u1:N8 V:=.mk u0 u0 u0 u0 u0 u0 u0 u0
noncomputable def u2:N8 (N8 V):=.mk u1 u1 u1 u1 u1 u1 u1 u1
noncomputable def C4:Env:=.mk u2 u2 u2 u2 u2 u2 u2 u2
noncomputable def Td (f:cF) (fuel:Nat) (ph:cW) (args:List V) (H:Heap) (k:K):R:=cF.rec (motive:=λ_=>R)
 (λg=>g args H k)
 (λps res c=>fO ps args C4 λe=>gZ c fuel ph e H (λe H=>wG res e H λl=>HZ l λv=>k v H) λn e H=>Nat.rec (motive:=λ_=>R) (wG res e H λl=>HZ l λv=>k v H) (λ_ _=>no 6) n) f
noncomputable def Vf (cp:RC->ai) (fuel:Nat) (ph:cW) (b:Nat) (args:List V) (H:Heap) (k:K):R:=
 dj H b λbl=>eP bl λst j e ps asL bo=>Nat.rec (motive:=λ_=>R)
  (fO ps args e λe1=>gZ (cp asL) fuel ph e1 H (λe2 H=>dj H b λbl=>eP bl λst1 j1 e1 ps1 as1 bo1=>Nat.rec (motive:=λ_=>R) (cQ 0 H b (.loop 1 j1 e1 ps1 as1 bo1) λH=>gZ (cp bo) fuel ph e2 H
   (λ_ H=>dj H b λbl=>eP bl λ_ _ e' ps' as' bo'=>cQ 0 H b (.loop 0 0 e' ps' as' bo') λH=>k (.bool true) H)
   λn _ H=>dj H b λbl=>eP bl λ_ _ e' ps' as' bo'=>cQ 0 H b (.loop 2 (WI n) e' ps' as' bo') λH=>k (.bool false) H) (λ_ _=>no 13) st1) (λ_ _ _=>no 11))
  (λ_ _=>no 12) st
noncomputable def GA (t:Nat->Option cF) (fuel:Nat) (ph:cW) (f:Nat) (args:List V) (H:Heap) (k:K):R:=av f λf=>Option.rec (motive:=λ_=>R) (no (100+f)) (λfn=>Td fn fuel ph args H k) (t f)
noncomputable def aQ (cp:RC->ai) (t:Nat->Option cF) (fuel:Nat) (depth:Nat):cW:=Nat.rec (motive:=λ_=>cW) (λ_ _ _ _=>no 7) (λ_ ih x args H k=>
 V.rec (motive_1:=λ_=>R) (motive_2:=λ_=>R) (λ_ _=>no 0) (λ_=>no 0) (λ_ _=>no 0) (λ_ _=>no 0) (no 0) (λ_ _ _ _ _=>no 0) (no 0) (λ_=>no 0) (no 0) (λf caps _=>Nat.rec (motive:=λ_=>R) (jf args caps λargs=>GA t fuel ih (Wf f 2) args H k) (λ_ _=>jf caps args λargs=>GA t fuel ih (Wf f 2) args H k) (Ys f 2)) (λb=>Vf cp fuel ih b args H k) (no 0) (λ_ _ _=>no 0) (no 0) (λ_ _=>no 0) (λ_ _=>no 0) (0:R) (λ_ _ _ _=>(0:R)) x) depth
noncomputable def H0:Heap:=.mk 0 0 .e
end Go.Ev
end
section
namespace Go.Ev
section
variable (P:Program)
def jg (fid:Nat) (fn:Func):Option cF:=match fn.body with
 | some c=>if fn.ntmps<=512 && fn.params.size+fn.nfree<=fn.ntmps then
  match kZ P fn.ntmps fn.results.toList with
  | some r=>some (.code ((WT (fn.params.size+fn.nfree)).map aX) r (ic P fn.ntmps fid false c))
  | none=>none
  else none
 | none=>none
end
end Go.Ev
end
section
namespace Go.Ev
noncomputable def Jm (sl sn:Nat) (l:List V):(Nat->Nat->R)->R:=List.rec (motive:=λ_=>(Nat->Nat->R)->R) (λk=>k 0 0)
 (λv r ih k=>dZ 0 v λl n=>List.rec (motive:=λ_=>R) (k l n) (λ_ _ _=>ih λrl rn=>
  av (YW l (YW sl rl)) λtl=>av (YW n (Yq (YW sn (Yq rn (Yh 8 sl))) (Yh 8 l))) λtn=>k tl tn) r) l
noncomputable def pG (c b:Nat) (k:Nat->R):R:=av (YM2 (Yz c 4) (Qu (Yz 9937593612760466100516450665319420528403982636753068485404800763335476026940182181175496972418787619281442302519629725716261212251300561153615832085954560 (Yh 32 (Qu (YM2 c b) 15))) 4294967295)) k
noncomputable def uQ (l:Nat):Nat->Nat->(Nat->R)->R:=Nat.rec (motive:=λ_=>Nat->Nat->(Nat->R)->R) (λ_ c k=>k c) (λ_ ih n c k=>av (Ys n 256) λb=>av (Wf n 256) λn'=>pG c b λc=>pG c (Yz b 4) λc=>ih n' c k) l
end Go.Ev
end
section
namespace Go.Ev
def q8 {α:Type} (i:I8) (t:N8 α) (x:α):N8 α:=match t with
 | .mk a0 a1 a2 a3 a4 a5 a6 a7=>match i with
  | .i0=>.mk x a1 a2 a3 a4 a5 a6 a7 | .i1=>.mk a0 x a2 a3 a4 a5 a6 a7 | .i2=>.mk a0 a1 x a3 a4 a5 a6 a7 | .i3=>.mk a0 a1 a2 x a4 a5 a6 a7
  | .i4=>.mk a0 a1 a2 a3 x a5 a6 a7 | .i5=>.mk a0 a1 a2 a3 a4 x a6 a7 | .i6=>.mk a0 a1 a2 a3 a4 a5 x a7 | .i7=>.mk a0 a1 a2 a3 a4 a5 a6 x
def kP (s:Slot) (v:V) (e:Env):Env:=match s with
 | .mk a b c=>q8 a e (q8 b (p8 a e) (q8 c (p8 b (p8 a e)) v))
theorem NP {α} (i) (t) (k:α->R):g8 i t k=k (p8 i t):=by cases i<;>rfl
theorem PU {α} (i) (t) (f) (k:N8 α->R):u8 i t f k=f (p8 i t) λx=>k (q8 i t x):=by cases i<;>rfl
theorem JE {α} (i j) (t) (x:α):p8 i (q8 j t x)=if i=j then x else p8 i t:=by cases i<;>cases j<;>rfl
theorem eg (s) (e) (k):jz s e k=k (aa s e):=by
 cases s with
 | mk a b c=>show g8 a e (λt=>g8 b t λu=>g8 c u k)=_;rw [NP,NP,NP];rfl
theorem sA (s) (v) (e) (k):Il s v e k=k (kP s v e):=by
 cases s with
 | mk a b c=>show u8 a e (λt k1=>u8 b t (λu k2=>u8 c u (λ_ k3=>k3 v) k2) k1) k=_;rw [PU,PU,PU];rfl
theorem eT (s s') (v) (e):aa s (kP s' v e)=if s=s' then v else aa s e:=by
 cases s with
 | mk a b c=>
  cases s' with
  | mk a' b' c'=>
   simp only [aa,kP,JE]
   by_cases h1:a=a'
   .subst h1
    by_cases h2:b=b'
    .subst h2
     by_cases h3:c=c'
     .simp [JE]
     .simp [h3,JE]
    .simp [h2,JE]
   simp_all
theorem F8 {m n} (hm:m<8) (hn:n<8) (h:d8 m=d8 n):m=n:=by
 rcases (by omega:m=0\/m=1\/m=2\/m=3\/m=4\/m=5\/m=6\/m=7) with rfl|rfl|rfl|rfl|rfl|rfl|rfl|rfl<;>
 rcases (by omega:n=0\/n=1\/n=2\/n=3\/n=4\/n=5\/n=6\/n=7) with rfl|rfl|rfl|rfl|rfl|rfl|rfl|rfl<;>first|rfl|cases h
theorem fu {m n} (hm:m<512) (hn:n<512) (h:aX m=aX n):m=n:=by
 injection h with h1 h2 h3
 have h1:=F8 (by omega) (by omega) h1
 have h2:=F8 (by omega) (by omega) h2
 have h3:=F8 (by omega) (by omega) h3
 omega
theorem TR.put {mu:M} {nt:Nat} {e:Env} {tmps:Array Value} (h:TR mu nt e tmps) {d:Nat} {v:V} {c:Value} (hd:d<nt) (hv:VR mu v c):
 TR mu nt (kP (aX d) v e) (tmps.setIfInBounds d c):=by
 refine ⟨by simpa using h.size,h.le,λt u ht=>?_,λt h1 h2=>by
  have hl:=h.le
  rw [eT,if_neg λe=>by have:=fu (by omega) (by omega) e;omega]
  exact h.rest t h1 h2⟩
 rw [eT]
 have hs:=h.size
 have hl:=h.le
 by_cases htd:t=d
 .subst htd
  rw [if_pos rfl]
  rw [Array.getElem?_setIfInBounds_self_of_lt (by omega)]at ht
  cases ht
  exact hv
 .rw [Array.getElem?_setIfInBounds_ne (Ne.symm htd)]at ht
  have hlt:t<tmps.size:=by
   rcases Yf t tmps.size with h|h
   .exact h
   .simp [Array.getElem?_eq_none h]at ht
  rw [if_neg λe=>htd (fu (by omega) (by omega) e)]
  exact h.get t u ht
theorem aw (n) (k):av n k=k n:=by cases n<;>rfl
theorem abk (t f):aD true t f=t:=rfl
theorem ZS (t f):aD false t f=f:=rfl
theorem aK {c} {t} {n} (h:aD c t (no n)=1):c=true/\t=1:=by
 cases c
 .exact (au h).elim
 .exact ⟨rfl,h⟩
theorem bO {c} {t f} (h:aD c t f=1):(c=true/\t=1)\/(c=false/\f=1):=by
 cases c
 .exact YD ⟨rfl,h⟩
 .exact YG ⟨rfl,h⟩
theorem bT {a b:Nat} (h:YK a b=true):a=b:=Nat.eq_of_beq_eq_true h
theorem bU {a b:Nat} (h:YS a b=true):a<=b:=Qn h
theorem er {a b} (h:Yy a b=true):a<b:=Qn h
theorem dE {id} {x} {k} (h:cw id x k=1):(∃ kd n,x = .int kd n/\k kd n=1):=by
 cases x<;>first|exact (au h).elim|exact ⟨_,_,rfl,h⟩
theorem mq {id} {x} {k} (h:eJ id x k=1):(∃ b,x = .bool b/\k b=1):=by
 cases x<;>first|exact (au h).elim|exact ⟨_,rfl,h⟩
theorem ej {id} {x} {k} (h:dZ id x k=1):(∃ l n,x = .str l n/\k l n=1):=by
 cases x<;>first|exact (au h).elim|exact ⟨_,_,rfl,h⟩
theorem fE {id} {x} {k} (h:ei id x k=1):(∃ b o,x = .ptr b o/\k b o=1):=by
 cases x<;>first|exact (au h).elim|exact ⟨_,_,rfl,h⟩
theorem LH {id} {x} {k} (h:lH id x k=1):(∃ b o l c s,x = .slice b o l c s/\k b o l c s=1):=by
 cases x<;>first|exact (au h).elim|exact ⟨_,_,_,_,_,rfl,h⟩
theorem ez {id} {x} {k} {z} (h:bh id x k z=1):(∃ b o l c s,x = .slice b o l c s/\k b o l c s=1)\/(x = .aB/\z=1):=by
 cases x<;>first|exact (au h).elim|exact YG ⟨_,_,_,_,_,rfl,h⟩|exact YD ⟨rfl,h⟩
theorem JQ {id} {x} {k} (h:Ff id x k=1):(∃ b,x = .map b/\k b=1):=by
 cases x<;>first|exact (au h).elim|exact ⟨_,rfl,h⟩
theorem Fg {id} {x} {k} {z} (h:qp id x k z=1):(∃ b,x = .map b/\k b=1)\/(x = .xd/\z=1):=by
 cases x<;>first|exact (au h).elim|exact YG ⟨_,rfl,h⟩|exact YD ⟨rfl,h⟩
theorem Fe {id} {x} {k} (h:xJ id x k=1):(∃ f l,x = .func f l/\k f l=1):=by
 cases x<;>first|exact (au h).elim|exact ⟨_,_,rfl,h⟩
theorem pV {id} {x} {k} (h:js id x k=1):(∃ l,x = .agg l/\k l=1):=by
 cases x<;>first|exact (au h).elim|exact ⟨_,rfl,h⟩
theorem Zt {id t} {x} {k} (h:vIf id t x k=1):∃ v,x = .iface t v/\k v=1:=by
 cases x<;>first|exact (au h).elim|skip
 have h':=h
 rcases bO h' with ⟨h1,h2⟩|⟨_,h2⟩
 .simp_all
 .exact (au h2).elim
theorem Uv {id} {x} {k} (h:ym id x k=1):(∃ l,x = .cV l/\k l=1):=by
 cases x<;>first|exact (au h).elim|exact ⟨_,rfl,h⟩
theorem tC {id}:∀ {l} {i} {k},nth id l i k=1->∃ v,l[i]? = some v/\k v=1
 | [],_,_,h=>(au h).elim
 | v :: l,0,_,h=>⟨v,rfl,h⟩
 | _ :: l,i+1,k,h=>by
  have h':nth id l i k=1:=h
  obtain ⟨v,h1,h2⟩:=tC h'
  simp_all
theorem kE {id}:∀ {l} {n} {k},takeN id l n k=1->n<=l.length/\k (l.take n)=1
 | [],0,_,h=>⟨YA _,h⟩
 | [],_+1,_,h=>(au h).elim
 | v :: l,0,_,h=>⟨Yd _,h⟩
 | v :: l,n+1,k,h=>by
  have h':takeN id l n (λr=>k (v :: r))=1:=h
  obtain ⟨h1,h2⟩:=kE h'
  simp_all
theorem lU {id}:∀ {l} {n} {k},fj id l n k=1->n<=l.length/\k (l.drop n)=1
 | [],0,_,h=>⟨YA _,h⟩
 | [],_+1,_,h=>(au h).elim
 | v :: l,0,_,h=>⟨Yd _,h⟩
 | v :: l,n+1,k,h=>by
  have h':fj id l n k=1:=h
  obtain ⟨h1,h2⟩:=lU h'
  simp_all
theorem eL:∀ (l m) (k),jf l m k=k (l ++ m)
 | [],_,_=>rfl
 | v :: l,m,k=>by
  show jf l m (λr=>k (v :: r))=_
  rw [eL];rfl
theorem Bt {id}:∀ {m l} {k},over id m l k=1->m.length<=l.length/\k (m ++ l.drop m.length)=1
 | [],l,k,h=>⟨Yd _,by have h':k l=1:=h;simp_all⟩
 | x :: m,[],_,h=>(au h).elim
 | x :: m,y :: l,k,h=>by
  have h':over id m l (λq=>k (x :: q))=1:=h
  obtain ⟨h1,h2⟩:=Bt h'
  simp_all
theorem xA {id} {m}:∀ {l} {i} {k},setAt id m l i k=1->i+m.length<=l.length/\k (l.take i ++ (m ++ l.drop (i+m.length)))=1
 | [],0,k,h=>by
  have h':over id m [] k=1:=h
  obtain ⟨h1,h2⟩:=Bt h'
  simp_all
 | [],_+1,_,h=>(au h).elim
 | v :: l,0,k,h=>by
  have h':over id m (v :: l) k=1:=h
  obtain ⟨h1,h2⟩:=Bt h'
  simp_all
 | v :: l,i+1,k,h=>by
  have h':setAt id m l i (λr=>k (v :: r))=1:=h
  obtain ⟨h1,h2⟩:=xA h'
  grind
theorem iJ:∀ l:List V,dL l=l.length
 | []=>rfl
 | _ :: l=>by show WI (dL l)=_;rw [iJ l];rfl
theorem BI (m):∀ (n) (k),T8 m n k=k (gU n m)
 | 0,_=>rfl
 | n+1,k=>by
  show T8 m n (λr=>jf m r k)=_
  rw [BI m n,eL];rfl
theorem wK {id} {x} {k} (h:dX id x k=1):x.one=true/\k=1:=by
 cases x<;>first|exact (au h).elim|exact ⟨rfl,h⟩
theorem ec {id}:∀ {l} {k},aZ id l k=1->(∀ v ∈ l,v.one=true)/\k=1
 | [],_,h=>⟨λ_ hv=>absurd hv (by simp),h⟩
 | v :: l,k,h=>by
  have h':dX id v (aZ id l k)=1:=h
  obtain ⟨h1,h2⟩:=wK h'
  obtain ⟨h3,h4⟩:=ec h2
  simp_all
theorem Ly {id} {x} {k} (h:dN id x k=1):(∃ l,x = .agg l/\k l=1)\/(x.one=true/\k [x]=1):=by
 cases x<;>first|exact (au h).elim|exact YG ⟨_,rfl,h⟩|exact YD ⟨rfl,h⟩
theorem aL:∀ (l n),(aA l n).length=l
 | 0,_=>rfl
 | l+1,n=>by simp [aA,aL l]
theorem qU:∀ (l n i),i<l->(aA l n)[i]? = some (UInt8.ofNat (n/256 ^ i%256))
 | 0,_,_,h=>absurd h (by omega)
 | l+1,n,0,_=>by simp [aA]
 | l+1,n,i+1,h=>by
  simp only [aA,Qd]
  rw [qU l (n/256) i (by omega),YH1,QM,Wl]
theorem toNat_byte (x):(UInt8.ofNat (x%256)).toNat=x%256:=by simp
theorem mY:∀ (l n m),n%256 ^ l=m%256 ^ l->aA l n=aA l m
 | 0,_,_,_=>rfl
 | l+1,n,m,h=>by
  rw [QM]at h
  have h1:=by
   have:=congrArg (· % 256) h
   simpa [Nat.mod_mul_left_mod] using this
  have h2:n/256%256 ^ l=m/256%256 ^ l:=by
   rw [Wl]at h
   rw [<- YD3,<- YD3,h]
  simp only [aA,h1,mY l _ _ h2]
theorem eU:∀ (a b n m),n<256 ^ a->aA (a+b) (n+256 ^ a*m)=aA a n ++ aA b m
 | 0,b,n,m,h=>by
  have:n=0:=by omega
  subst this
  simp [aA]
 | a+1,b,n,m,h=>by
  rw [QM]at h ⊢
  have e1:(n+256 ^ a*256*m)%256=n%256:=by grind
  have e2:(n+256 ^ a*256*m)/256=n/256+256 ^ a*m:=by grind
  rw [show a+1+b=(a+b)+1 by omega]
  simp only [aA,e1,e2,Yb]
  rw [eU a b (n/256) m (YC3 (by omega))]
theorem iX:∀ (i l n),i<=l->(aA l n).drop i=aA (l-i) (n/256 ^ i)
 | 0,l,n,_=>by simp
 | i+1,0,n,h=>absurd h (by omega)
 | i+1,l+1,n,h=>by
  simp only [aA,List.drop_succ_cons]
  rw [iX i l (n/256) (by omega),YH1,QM,Wl 256,show l+1-(i+1)=l-i by omega]
theorem iY:∀ (i l n),i<=l->(aA l n).take i=aA i n
 | 0,l,n,_=>by rfl
 | i+1,0,n,h=>absurd h (by omega)
 | i+1,l+1,n,h=>by simp [aA,iY i l (n / 256) (by omega)]
theorem EK:∀ l:Nat,aA l 0=Yg l 0
 | 0=>rfl
 | l+1=>by simp [aA,EK l,List.replicate_succ]
theorem iC:∀ l:List UInt8,enc l<256 ^ l.length
 | []=>by simp [enc]
 | x :: l=>by
  have:=iC l
  have hx:=x.toNat_lt
  simp only [enc,YF,QM]
  omega
theorem ft:∀ l:List UInt8,aA l.length (enc l)=l
 | []=>rfl
 | x :: l=>by
  have hx:=x.toNat_lt
  simp only [enc,YF,aA]
  rw [show (x.toNat+256*enc l)%256=x.toNat by omega,show (x.toNat+256*enc l)/256=enc l by omega,ft l]
  simp
theorem mL:∀ (l n),n<256 ^ l->enc (aA l n)=n
 | 0,n,h=>by simp at h;simp [aA,enc,h]
 | l+1,n,h=>by
  simp only [aA,enc,toNat_byte]
  rw [mL l (n/256) (YC3 (by omega))]
  omega
theorem qV {l m n} (hm:m<256 ^ l) (hn:n<256 ^ l) (h:aA l m=aA l n):m=n:=by
 rw [<- mL l m hm,h,mL l n hn]
def eA (x:UInt8):V:=.int 4 x.toNat
theorem pe {id}:∀ {l} {k},ig id l k=1->∃ n,k l.length n=1/\(∀ v ∈ l,∃ x,v = .int 4 x)/\((∀ v ∈ l,∀ x,v = .int 4 x->x<256)->l=(aA l.length n).map eA/\n<256 ^ l.length)
 | [],k,h=>⟨0,h,λ_ hv=>absurd hv (by simp),λ_=>⟨rfl,by simp⟩⟩
 | v :: l,k,h=>by
  have h':cw id v (λkd x=>aD (YK kd 4) (ig id l λlen n=>av (YW x (Yh 256 n)) λn'=>av (WI len) λlen'=>k len' n') (no _))=1:=h
  obtain ⟨kd,x,rfl,h1⟩:=dE h'
  obtain ⟨h2,h3⟩:=aK h1
  have:=bT h2
  subst this
  obtain ⟨n,h4,h40,h5⟩:=pe h3
  rw [aw,aw]at h4
  refine ⟨_,h4,λv hv=>(YP.1 hv).elim (λe=>⟨_,e⟩) (h40 v),λha=>?_⟩
  obtain ⟨h6,h7⟩:=h5 λv hv=>ha v (YI _ hv)
  have hlt:=ha _ (YJ ..) _ rfl
  simp only [YF,aA,QM]
  have e1:(x.add (Yh 256 n))%256=x:=by grind
  have e2:(x.add (Yh 256 n))/256=n:=by grind
  rw [e1,e2]
  refine ⟨?_,by omega⟩
  simp only [Ye,eA]
  rw [<- h6]
  simp [Yr hlt]
theorem iH:∀ (len n) (k),pU len n k=k ((aA len n).map eA)
 | 0,_,_=>rfl
 | len+1,n,k=>by
  show av (Ys n 256) (λx=>av (Wf n 256) λn'=>pU len n' λr=>k (.int 4 x :: r))=_
  rw [aw,aw,iH]
  simp only [aA,Ye,eA,toNat_byte]
  rfl
end Go.Ev
end
section
namespace Go.Ev
open Go.RowKit
theorem aP (H) (b) (k):dj H b k=k (H.get b):=by rfl
theorem jN {id} {bl} {kc} {kb} (h:rJ id bl kc kb=1):(∃ l,bl = .cells l/\kc l=1)\/∃ len n,bl = .bytes len n/\kb len n=1:=by
 cases bl<;>first|exact (au h).elim|exact YG ⟨_,rfl,h⟩|exact YD ⟨_,_,rfl,h⟩
theorem uM {id} {bl} {k} (h:rI id bl k=1):∃ es,bl = .map es/\k es=1:=by
 cases bl<;>first|exact (au h).elim|exact ⟨_,rfl,h⟩
theorem lL {bl} {k} (h:eP bl k=1):∃ st j e ps asL bo,bl = .loop st j e ps asL bo/\k st j e ps asL bo=1:=by
 cases bl<;>first|exact (au h).elim|exact ⟨_,_,_,_,_,_,rfl,h⟩
structure L2 (H:Heap) (b:Nat) (x:eB) (H':Heap):Prop where
 lt:b<H.n
 n:H'.n=H.n
 bj:H'.bj<=H.bj
 wb:H'.bj<=b
 get:H'.get b=x
 tE:∀ j,j≠b->H'.get j=H.get j
theorem fR {id} {H} {b} {x} {k} (h:cQ id H b x k=1):∃ H',k H'=1/\L2 H b x H':=by
 cases H with
 | mk n bj t=>
  have h':=h
  obtain ⟨h1,h2⟩:=aK h'
  obtain ⟨t',h3,h4,h5⟩:=HT.Im _ _ _ h2
  rcases bO h3 with ⟨h6,h7⟩|⟨h6,h7⟩
  .exact ⟨_,h7,er h1,rfl,YA _,bU h6,h4,h5⟩
  .have:b<bj:=by
    rcases Yf b bj with h|h
    .omega
    .rw [WS h]at h6;cases h6
   exact ⟨_,h7,er h1,rfl,QN this,YA _,h4,h5⟩
structure nQ (H:Heap) (x:eB) (H':Heap):Prop where
 n:H'.n=H.n+1
 bj:H'.bj=H.bj
 get:H'.get H.n=x
 tE:∀ j,j≠H.n->H'.get j=H.get j
theorem dr {H} {x} {k} (h:cm H x k=1):∃ H',k H.n H'=1/\nQ H x H':=by
 cases H with
 | mk n bj t=>
  have h':=h
  obtain ⟨t',h3,h4,h5⟩:=HT.Im _ _ _ h'
  exact ⟨_,h3,rfl,rfl,h4,h5⟩
def rowOf:eB->Option (List V)
 | .cells l=>some l
 | .bytes len n=>some ((aA len n).map eA)
 | _=>none
theorem ZQ (x):(eA x).one=true:=rfl
theorem toI_u8 (x) (h:x<256):toI .u8 x=x:=by
 show IntKind.u8.wrap (x:Int)=x
 simp [IntKind.wrap,IntKind.bits,IntKind.signed]
 omega
theorem uL (mu) (x):VR mu (eA x) (.int .u8 x.toNat):=by
 have h:=x.toNat_lt
 refine ⟨?_,?_,by omega⟩
 .show Value.int .u8 _=Value.int .u8 (toI .u8 _)
  rw [toI_u8 _ (by omega)]
 .show _<2 ^ IntKind.u8.bits
  simp [IntKind.bits];omega
theorem gf {bl} {row} (h:rowOf bl=some row):bl.alive/\bl ≠ .mark:=by
 cases bl<;>simp [rowOf]at h<;>exact ⟨trivial,by simp⟩
theorem Ub {P} {mu} {bl} {row} {o} (h:rowOf bl=some row) (hb:BR P mu bl o):∃ c e fr,o = .cells c e fr/\ik mu row c fr:=by
 cases bl with
 | cells l=>simp only [rowOf,Option.some.injEq]at h;obtain ⟨c,e,fr,h1,h2,_⟩:=hb;grind
 | bytes len n=>
  simp only [rowOf,Option.some.injEq]at h
  subst h
  obtain ⟨c,e,fr,h1,⟨_,h2⟩,h3⟩:=hb
  refine ⟨c,e,fr,h1,λi v hi=>?_,h3⟩
  simp only [Yj,YZ]at hi
  obtain ⟨x,hx,rfl⟩:=hi
  exact ⟨rfl,_,h2 i x hx,uL mu x⟩
 | _=>simp [rowOf]at h
section
variable {P:Program} {base:Nat} {w0 w w':World} {rho:Nat->Option Nat} {H H':Heap}
theorem PR.row (h:PR P base w0 rho H w) {b c:Nat} {row:List V} (hr:rho b=some c) (bC:rowOf (H.get b)=some row):
 ∃ cs e fr,w.heap[c]? = some (.cells cs e fr)/\ik (mu rho H w) row cs fr:=by
 obtain ⟨o,h1,h2⟩:=h.cO b c hr
 obtain ⟨cs,e,fr,rfl,h3⟩:=Ub bC h2
 exact ⟨cs,e,fr,h1,h3⟩
theorem PR.Tz (h:PR P base w0 rho H w) {b c:Nat} {l:List V} (hr:rho b=some c) (hb:H.get b = .cells l) {cs:Array Value} {e:TypeId} {fr:Nat × Nat} (hw:w.heap[c]? = some (.cells cs e fr)):¬ (fr.1<=cs.size/\cs.size<fr.2):=by
 obtain ⟨o,h1,h2⟩:=h.cO b c hr
 rw [hb]at h2
 obtain ⟨c',e',fr',rfl,_,h3⟩:=h2
 rw [hw]at h1
 cases h1
 exact h3
theorem PR.jr (h:PR P base w0 rho H w) {b c:Nat} {row:List V} (hm:(mu rho H w).b b c) (bC:rowOf (H.get b)=some row):rho b=some c:=hm.2 (gf bC).1
theorem tD {v} {c} {m} (h:VR m v c) (ho:v.one=true):c.oneCell'=true:=by
 obtain ⟨h1,h2⟩:=h.one ho
 cases c<;>first|rfl|rfl|simp_all
theorem PR.cell (h:PR P base w0 rho H w) {b c i:Nat} {row:List V} {v:V} (hr:rho b=some c) (bC:rowOf (H.get b)=some row) (hi:row[i]? = some v):
 ∃ cv,w.cell? ⟨c,i,none⟩=some cv/\VR (mu rho H w) v cv/\v.one=true:=by
 obtain ⟨cs,e,fr,h1,h2,h3⟩:=h.row hr bC
 obtain ⟨h4,cv,h5,h6⟩:=h2 i v hi
 exact ⟨cv,by simp [World.cell?,h1,h5],h6,h4⟩
theorem ik.le {mu:M} {row:List V} {cs:Array Value} {fr:Nat × Nat} (h:ik mu row cs fr):row.length<=cs.size:=by
 rcases Yf cs.size row.length with hlt|hge
 .obtain ⟨_,cv,h2,_⟩:=h.1 cs.size _ (YB hlt)
  simp at h2
 .exact hge
theorem ik.vrs {mu:M} {row:List V} {cs:Array Value} {fr:Nat × Nat} (h:ik mu row cs fr) {o n:Nat} (hn:o+n<=row.length):bS mu ((row.drop o).take n) ((cs.toList.drop o).take n):=by
 have hle:=h.le
 refine bS.oZ (by simp;omega) λi v c h1 h2=>?_
 rw [Yk]at h1 h2
 split at h1
 .rename_i hi
  rw [if_pos hi]at h2
  rw [Yx]at h1 h2
  obtain ⟨_,cv,h3,h4⟩:=h.1 _ _ h1
  rw [Yo]at h2
  rw [h3]at h2
  cases h2
  exact h4
 .cases h1
theorem PR.cells (h:PR P base w0 rho H w) {b c o n:Nat} {row:List V} (hr:rho b=some c) (bC:rowOf (H.get b)=some row) (hn:o+n<=row.length):
 ∃ cs:List Value,(loadCells ⟨c,o,none⟩ n).run P w = .ok cs.toArray w/\bS (mu rho H w) ((row.drop o).take n) cs/\cs.length=n:=by
 obtain ⟨cs,e,fr,h1,h2⟩:=h.row hr bC
 have hle:=h2.le
 refine ⟨(cs.toList.drop o).take n,?_,h2.vrs hn,by simp;omega⟩
 have hl:((cs.toList.drop o).take n).length=n:=by simp;omega
 have:=run_loadCells_list (P:=P) w ⟨c,o,none⟩ ((cs.toList.drop o).take n) (λj v hv=>by
  rw [Addr.add_lit]
  rw [Yk]at hv
  split at hv
  .rw [Yx,Yo]at hv
   simp [World.cell?,h1,hv]
  .cases hv)
 rwa [hl]at this
theorem gV {g o} {t} {fr}:∀ (vs) (i) (cur) (w),w.heap[g]? = some (.cells cur t fr)->o+i+vs.length<=cur.size->(∀ v ∈ vs,v.oneCell'=true)->
 (∀ j,j<cur.size->¬ (fr.1<=j/\j<fr.2))->
 ∃ w' cur',(storeCells ⟨g,o,none⟩ vs i).run P w = .ok () w'/\w'.heap[g]? = some (.cells cur' t fr)/\cur'.size=cur.size/\(∀ j:Nat,cur'[j]? = if o+i<=j/\j<o+i+vs.length then vs[j-(o+i)]? else cur[j]?)/\
  (∀ j,j≠g->w'.heap[j]? = w.heap[j]?)/\w'.heap.size=w.heap.size/\vB w w'
 | [],i,cur,w,hg,_,_,_=>⟨w,cur,rfl,hg,rfl,λj=>by grind,λ_ _=>rfl,rfl,rfl,rfl,rfl⟩
 | v :: vs,i,cur,w,hg,hl,hv,hfr=>by
  simp only [YF]at hl
  have hlt:o+i<cur.size:=by omega
  have hcell:w.cell? ⟨g,o+i,none⟩=some cur[o+i]:=by simp [World.cell?,hg,hlt]
  have hfz:w.frozen? ⟨g,o+i,none⟩=false:=by
   have:=hfr (o+i) hlt
   simp only [World.frozen?,hg]
   simp_all
  have hg':(w.setCell ⟨g,o+i,none⟩ v).heap[g]? = some (.cells (cur.setIfInBounds (o+i) v) t fr):=by
   simp [World.setCell,Wj,hg]
  obtain ⟨w',cur',h1,h2,h3,h4,h5,h6,h7⟩:=gV (o:=o) vs (i+1) _ _ hg' (by simp;omega) (λu hu=>hv u (YI _ hu)) (by simp_all)
  refine ⟨w',cur',?_,h2,by simp_all,λj=>?_,λj hj=>?_,?_,?_⟩
  .simp only [storeCells,Sem.run_bind,Addr.add_lit,run_store P w _ v .plain (hv v (YJ ..)),hcell,hfz]
   simp_all
  .grind
  .rw [h5 j hj]
   simp [World.setCell,Wj,Ne.symm hj]
  .simp_all
  .exact ⟨h7.os,h7.tape,h7.output⟩
theorem wW {id b off} {k} (h:nv id H b off k=1):∃ row v,rowOf (H.get b)=some row/\row[off]? = some v/\k v=1:=by
 unfold nv at h
 rw [aP]at h
 rcases jN h with ⟨l,hb,h1⟩|⟨len,n,hb,h1⟩
 .obtain ⟨v,h2,h3⟩:=tC h1
  exact ⟨l,v,by rw [hb];rfl,h2,h3⟩
 .obtain ⟨h2,h3⟩:=aK h1
  have hlt:=er h2
  rw [aw]at h3
  refine ⟨_,eA (UInt8.ofNat (n/256 ^ off%256)),by rw [hb];rfl,by rw [Yj,qU _ _ _ hlt];rfl,?_⟩
  have e:Qu (Yz n (Yh 8 off)) 255=n/256 ^ off%256:=by
   show (n >>> (8*off)) &&& 255=_
   rw [WA,QE,show (255:Nat)=2 ^ 8-1 by rfl,QC]
  rw [e]at h3
  simpa [eA] using h3
theorem mb {id b off n} {k} (h:eC id H b off n k=1):∃ row,rowOf (H.get b)=some row/\off+n<=row.length/\k ((row.drop off).take n)=1:=by
 unfold eC at h
 rw [aP]at h
 rcases jN h with ⟨l,hb,h1⟩|⟨len,m,hb,h1⟩
 .obtain ⟨h2,h3⟩:=lU h1
  obtain ⟨h4,h5⟩:=kE h3
  refine ⟨l,by rw [hb];rfl,by grind,h5⟩
 .obtain ⟨h2,h3⟩:=aK h1
  have hle:off+n<=len:=bU h2
  rw [iH]at h3
  refine ⟨_,by rw [hb];rfl,by simpa [aL] using hle,?_⟩
  have e:Yz m (Yh 8 off)=m/256 ^ off:=by
   show m >>> (8*off)=_
   rw [WA,QE]
  rw [e]at h3
  rw [<- YC1,<- QZ,iX _ _ _ (by omega),iY _ _ _ (by omega)]
  omega
def nA:eB->Option (List V)
 | .view l=>some l
 | bl=>rowOf bl
theorem EA {bl} {row} (h:nA bl=some row):bl.alive:=by
 cases bl<;>simp [nA,rowOf]at h<;>trivial
theorem PR.afn (h:PR P base w0 rho H w) {b c:Nat} {row:List V} (hr:rho b=some c) (bC:nA (H.get b)=some row):
 ∃ cs e fr,w.heap[c]? = some (.cells cs e fr)/\∀ (i:Nat) (v:V),row[i]? = some v->(v.one=true\/rowOf (H.get b)=some row)->v.one=true/\(∃ cv,cs[i]? = some cv/\VR (mu rho H w) v cv)/\¬ (fr.1<=i/\i<fr.2):=by
 by_cases ho:rowOf (H.get b)=some row
 .obtain ⟨cs,e,fr,h1,h2⟩:=h.row hr ho
  refine ⟨cs,e,fr,h1,λi v hi _=>?_⟩
  obtain ⟨h3,cv,h4,h5⟩:=h2.1 i v hi
  exact ⟨h3,⟨cv,h4,h5⟩,h2.2 i (YL.1 h4).1⟩
 .obtain ⟨o,h1,h2⟩:=h.cO b c hr
  cases hb:H.get b with
  | view l=>
   rw [hb]at h2 bC
   simp only [nA,Option.some.injEq]at bC
   subst bC
   obtain ⟨cs,e,fr,rfl,h3⟩:=h2
   exact ⟨cs,e,fr,h1,λi v hi hv=>by
    rcases hv with hv|hv
    .exact ⟨hv,h3 i v hi hv⟩
    .simp [rowOf]at hv⟩
  | _=>rw [hb]at bC ho;exact absurd bC ho
theorem PR.xu (h:PR P base w0 rho H w) {b c:Nat} {row:List V} (hm:(mu rho H w).b b c) (bC:nA (H.get b)=some row):rho b=some c:=hm.2 (EA bC)
theorem PR.Pb (h:PR P base w0 rho H w) {b c i:Nat} {row:List V} {v:V} (hr:rho b=some c) (bC:nA (H.get b)=some row) (hi:row[i]? = some v) (ho:v.one=true\/rowOf (H.get b)=some row):
 ∃ cv,w.cell? ⟨c,i,none⟩=some cv/\VR (mu rho H w) v cv/\v.one=true/\w.frozen? ⟨c,i,none⟩=false:=by
 obtain ⟨cs,e,fr,h1,h2⟩:=h.afn hr bC
 obtain ⟨h3,⟨cv,h4,h5⟩,h6⟩:=h2 i v hi ho
 exact ⟨cv,by simp [World.cell?,h1,h4],h5,h3,by simp only [World.frozen?,h1];simpa using h6⟩
theorem PR.HP (h:PR P base w0 rho H w) {b c o n:Nat} {row:List V} (hr:rho b=some c) (bC:nA (H.get b)=some row) (hn:o+n<=row.length) (ho:(∀ v ∈ (row.drop o).take n,v.one=true)\/rowOf (H.get b)=some row):
 ∃ cs:List Value,(loadCells ⟨c,o,none⟩ n).run P w = .ok cs.toArray w/\bS (mu rho H w) ((row.drop o).take n) cs/\cs.length=n/\∀ (j:Nat) (cv:Value),cs[j]? = some cv->w.cell? ⟨c,o+j,none⟩=some cv/\cv.oneCell'=true/\w.frozen? ⟨c,o+j,none⟩=false:=by
 have key:∀ j,j<n->∃ (v:V) (cv:Value),row[o+j]? = some v/\w.cell? ⟨c,o+j,none⟩=some cv/\VR (mu rho H w) v cv/\cv.oneCell'=true/\w.frozen? ⟨c,o+j,none⟩=false:=λj hj=>by
  have hi:row[o+j]? = some row[o+j]:=YB (by omega)
  have ho':row[o+j].one=true\/rowOf (H.get b)=some row:=ho.imp (λh=>h _ (by
   refine YY (i:=j) ?_
   rw [Yk,if_pos hj,Yx]
   exact hi)) id
  obtain ⟨cv,a1,a2,a3,a4⟩:=h.Pb hr bC hi ho'
  exact ⟨_,cv,hi,a1,a2,tD a2 a3,a4⟩
 let cs:List Value:=(WT n).map λj=>(w.cell? ⟨c,o+j,none⟩).getD undef
 have hcs:∀ (j:Nat) (cv:Value),cs[j]? = some cv->j<n/\w.cell? ⟨c,o+j,none⟩=some cv:=λj cv hj=>by
  have hlt:j<n:=by
   have:=(List.getElem?_eq_some_iff.1 hj).1
   simpa [cs] using this
  obtain ⟨v,cv',_,a1,_⟩:=key j hlt
  refine ⟨hlt,?_⟩
  simp only [cs,Yj,List.getElem?_range hlt,Option.map_some,a1,WH,Option.some.injEq]at hj
  rw [a1,hj]
 have hl:cs.length=n:=by simp [cs]
 refine ⟨cs,?_,?_,hl,λj cv hj=>?_⟩
 .have:=run_loadCells_list (P:=P) w ⟨c,o,none⟩ cs (λj v hv=>by rw [Addr.add_lit];exact (hcs j v hv).2)
  rwa [hl]at this
 .refine bS.oZ (by simp [cs];omega) λi v cv h1 h2=>?_
  obtain ⟨hi,h3⟩:=hcs i cv h2
  obtain ⟨v',cv',a1,a2,a3,_⟩:=key i hi
  rw [Yk,if_pos hi,Yx,a1]at h1
  cases h1
  rw [h3]at a2
  cases a2
  exact a3
 .obtain ⟨hj',h3⟩:=hcs j cv hj
  obtain ⟨v',cv',a1,a2,a3,a4,a5⟩:=key j hj'
  rw [h3]at a2
  cases a2
  exact ⟨h3,a4,a5⟩
theorem Mf {id} {bl} {kc} {kb} {kv} (h:ZP id bl kc kb kv=1):(∃ l,bl = .cells l/\kc l=1)\/(∃ len n,bl = .bytes len n/\kb len n=1)\/∃ l,bl = .view l/\kv l=1:=by
 cases bl<;>first|exact (au h).elim|exact YG ⟨_,rfl,h⟩|exact YD (YG ⟨_,_,rfl,h⟩)|exact YD (YD ⟨_,rfl,h⟩)
theorem yO {id} {v} {k} (h:dX id v k=1):v.one=true/\k=1:=by
 cases v<;>first|exact (au h).elim|exact ⟨rfl,h⟩
theorem vG {id}:∀ {l} {k},aZ id l k=1->(∀ v ∈ l,v.one=true)/\k=1
 | [],k,h=>⟨λ_ h=>absurd h (by simp),h⟩
 | v :: l,k,h=>by
  obtain ⟨h1,h2⟩:=yO (show dX id v (aZ id l k)=1 from h)
  obtain ⟨h3,h4⟩:=vG h2
  simp_all
theorem Pc {id b off} {k} (h:JJ id H b off k=1):∃ row v,nA (H.get b)=some row/\row[off]? = some v/\(v.one=true\/rowOf (H.get b)=some row)/\k v=1:=by
 unfold JJ at h
 rw [aP]at h
 rcases Mf h with ⟨l,hb,h1⟩|⟨len,n,hb,h1⟩|⟨l,hb,h1⟩
 .obtain ⟨row,v,h2,h3,h4⟩:=wW (id:=id) (by unfold nv;rw [aP,hb];exact h1)
  rw [hb]at h2
  exact ⟨row,v,by rw [hb];exact h2,h3,YD (by simp_all),h4⟩
 .obtain ⟨row,v,h2,h3,h4⟩:=wW (id:=id) (by unfold nv;rw [aP,hb];exact h1)
  rw [hb]at h2
  exact ⟨row,v,by rw [hb];exact h2,h3,YD (by simp_all),h4⟩
 .obtain ⟨v,h2,h3⟩:=tC h1
  obtain ⟨h4,h5⟩:=yO h3
  exact ⟨l,v,by rw [hb];rfl,h2,YG h4,h5⟩
theorem HQ {id b off n} {k} (h:Es id H b off n k=1):∃ row,nA (H.get b)=some row/\off+n<=row.length/\((∀ v ∈ (row.drop off).take n,v.one=true)\/rowOf (H.get b)=some row)/\k ((row.drop off).take n)=1:=by
 unfold Es at h
 rw [aP]at h
 rcases Mf h with ⟨l,hb,h1⟩|⟨len,m,hb,h1⟩|⟨l,hb,h1⟩
 .obtain ⟨row,h2,h3,h4⟩:=mb (by unfold eC;rw [aP,hb];exact h1)
  rw [hb]at h2
  exact ⟨row,by rw [hb];exact h2,h3,YD (by simp_all),h4⟩
 .obtain ⟨row,h2,h3,h4⟩:=mb (id:=id) (by unfold eC;rw [aP,hb];exact h1)
  rw [hb]at h2
  exact ⟨row,by rw [hb];exact h2,h3,YD (by simp_all),h4⟩
 .obtain ⟨h2,h3⟩:=lU h1
  obtain ⟨h4,h5⟩:=kE h3
  obtain ⟨h6,h7⟩:=vG h5
  exact ⟨l,by rw [hb];rfl,by grind,YG h6,h7⟩
def zX (l:List V) (x:Nat):Prop:=l=(aA l.length x).map eA/\x<256 ^ l.length
def zZ (l:List V):Prop:=∀ v ∈ l,∀ x,v = .int 4 x->x<256
theorem wV {id b off n} {k} (h:ma id H b off n k=1):∃ row x,rowOf (H.get b)=some row/\off+n<=row.length/\k x=1/\(∀ v ∈ (row.drop off).take n,∃ x,v = .int 4 x)/\(zZ ((row.drop off).take n)->zX ((row.drop off).take n) x):=by
 unfold ma at h
 rw [aP]at h
 rcases jN h with ⟨l,hb,h1⟩|⟨len,m,hb,h1⟩
 .obtain ⟨h2,h3⟩:=lU h1
  obtain ⟨h4,h5⟩:=kE h3
  obtain ⟨x,h6,h60,h7⟩:=pe h5
  exact ⟨l,x,by rw [hb];rfl,by grind,h6,h60,h7⟩
 .obtain ⟨h2,h3⟩:=aK h1
  have hle:off+n<=len:=bU h2
  rw [aw]at h3
  refine ⟨_,_,by rw [hb];rfl,by simpa [aL] using hle,h3,λv hv=>?_,λ_=>?_⟩
  .rw [<- YC1,<- QZ]at hv
   obtain ⟨y,_,rfl⟩:=List.mem_map.1 hv
   exact ⟨_,rfl⟩
  have e:Ys (Yz m (Yh 8 off)) (YA3 256 n)=m/256 ^ off%256 ^ n:=by
   show (m >>> (8*off))%256 ^ n=_
   rw [WA,QE]
  rw [e]
  have hl:(((aA len m).map eA).drop off |>.take n).length=n:=by simp [aL];omega
  refine ⟨?_,by rw [hl];omega⟩
  rw [hl,<- YC1,<- QZ,iX _ _ _ (by omega),iY _ _ _ (by omega)]
  congr 1
  exact mY _ _ _ (by simp)
theorem VR.Tm {m:M} {x:Nat} {c:Value} (h:VR m (.int 4 x) c):x<256/\c = .int .u8 x:=by
 simp only [VR]at h
 obtain ⟨h1,h2,_⟩:=h
 have h3:x<256:=h2
 exact ⟨h3,h1.trans (by show Value.int .u8 (toI .u8 x)=_;rw [toI_u8 x h3])⟩
theorem bS.mem {m:M} {l:List V} {cs:List Value} (h:bS m l cs) {v:V} (hv:v ∈ l):∃ c ∈ cs,VR m v c:=by
 obtain ⟨i,hi⟩:=QF hv
 obtain ⟨c,h1,h2⟩:=h.get hi
 exact ⟨c,YY h1,h2⟩
theorem bS.small {m:M} {l:List V} {cs:List Value} (h:bS m l cs):zZ l:=λv hv x e=>by
 obtain ⟨c,_,h2⟩:=h.mem hv
 subst e
 exact h2.Tm.1
theorem yi {len x off ml mx:Nat} (hx:x<256 ^ len) (hm:mx<256 ^ ml) (hl:off+ml<=len):
 aA len (YW (Ys x (YA3 256 off)) (Yq (YW mx (Yq (Yz x (Yh 8 (YW off ml))) (Yh 8 ml))) (Yh 8 off)))
  = (aA len x).take off ++ (aA ml mx ++ (aA len x).drop (off+ml))/\
 YW (Ys x (YA3 256 off)) (Yq (YW mx (Yq (Yz x (Yh 8 (YW off ml))) (Yh 8 ml))) (Yh 8 off))<256 ^ len:=by
 have e1:Yz x (Yh 8 (YW off ml))=x/256 ^ (off+ml):=by
  show x >>> (8*(off+ml))=_
  rw [WA,QE]
 have e2:∀ y k,Yq y (Yh 8 k)=256 ^ k*y:=λy k=>by
  show y <<< (8*k)=_
  rw [Qe,QE,Wl]
 rw [e1,e2,e2]
 show aA len (x%256 ^ off+256 ^ off*(mx+256 ^ ml*(x/256 ^ (off+ml))))=_/\x%256 ^ off+256 ^ off*(mx+256 ^ ml*(x/256 ^ (off+ml)))<_
 have hp:0<256 ^ off:=Nat.pow_pos (by simp)
 have hmod:x%256 ^ off<256 ^ off:=Qa _ hp
 have hd:=by
  apply YC3
  rw [<- YF1,show off+ml+(len-off-ml)=len by omega]
  omega
 constructor
 .have:=eU off (ml+(len-off-ml)) (x%256 ^ off) (mx+256 ^ ml*(x/256 ^ (off+ml))) hmod
  rw [show off+(ml+(len-off-ml))=len by omega]at this
  rw [this,eU ml _ _ _ hm,iY _ _ _ (by omega),iX _ _ _ hl,show len-(off+ml)=len-off-ml by omega]
  rw [mY off (x%256 ^ off) x (by simp)]
 .have h1:=by
   calc mx+256 ^ ml*(x/256 ^ (off+ml))<256 ^ ml+256 ^ ml*(x/256 ^ (off+ml)):=by omega
    _=256 ^ ml*(x/256 ^ (off+ml)+1):=by grind
    _<=256 ^ ml*256 ^ (len-off-ml):=Qs _ hd
  calc x%256 ^ off+256 ^ off*(mx+256 ^ ml*(x/256 ^ (off+ml)))<256 ^ off+256 ^ off*(mx+256 ^ ml*(x/256 ^ (off+ml))):=by omega
   _=256 ^ off*(mx+256 ^ ml*(x/256 ^ (off+ml))+1):=by grind
   _<=256 ^ off*(256 ^ ml*256 ^ (len-off-ml)):=Qs _ h1
   _=256 ^ len:=by rw [<- YF1,<- YF1];grind
theorem ik.PE {mu:M} {row m:List V} {cs cs':Array Value} {ms:List Value} {fr:Nat × Nat} {o:Nat} (h:ik mu row cs fr) (hm:bS mu m ms) (h1:∀ v ∈ m,v.one=true) (hl:o+m.length<=row.length)
 (hsz:cs'.size=cs.size) (hg:∀ j:Nat,cs'[j]? = if o+0<=j/\j<o+0+ms.length then ms[j-(o+0)]? else cs[j]?):ik mu (row.take o ++ (m ++ row.drop (o+m.length))) cs' fr:=by
 refine ⟨λi v hi=>?_,by rw [hsz];exact h.2⟩
 have hml:=hm.length
 rw [hg]
 by_cases hi1:i<o
 .rw [Ym (by simp;omega),Yk,if_pos hi1]at hi
  rw [if_neg (by omega)]
  exact h.1 i v hi
 .rw [Yt (by simp;omega)]at hi
  rw [show (row.take o).length=o by simp;omega]at hi
  by_cases hi2:i-o<m.length
  .rw [Ym hi2]at hi
   rw [if_pos (by omega)]
   obtain ⟨c,h2,h3⟩:=hm.get hi
   exact ⟨h1 v (YY hi),c,by simpa using h2,h3⟩
  .rw [Yt (by omega),Yx,show o+m.length+(i-o-m.length)=i by omega]at hi
   rw [if_neg (by omega)]
   exact h.1 i v hi
theorem sE {mm} {m} {ms} (hv:bS mm m ms) (hone:∀ v ∈ m,v.one=true):∀ u ∈ ms,u.oneCell'=true:=λu hu=>by
 obtain ⟨i,hi⟩:=QF hu
 have hlt:i<m.length:=by
  rw [<- hv.length]
  grind
 obtain ⟨c',h3,h4⟩:=hv.get (YB hlt)
 rw [hi]at h3
 cases h3
 exact tD h4 (hone _ (List.getElem_mem hlt))
theorem xD {id b off} {m} {k} (h1:dU id H b off m k=1):∀ v ∈ m,v.one=true:=by
 unfold dU at h1
 rw [aP]at h1
 rcases jN h1 with ⟨l,hb,h2⟩|⟨len,x,hb,h2⟩
 .exact (ec h2).1
 .obtain ⟨mx,h3,h30,h4⟩:=pe h2
  exact λv hv=>by obtain ⟨x,rfl⟩:=h30 v hv;rfl
end
end Go.Ev
end
section
namespace Go.Ev
open Go.RowKit
abbrev WF (rd:Option Nat):Fence:={fn:=λ_=>True,depth:=none,alive:=false,round:=rd }
def ay (a:Arg) (e:Env):V:=match a with
 | .s s=>aa s e
 | .c v=>v
theorem aq (a) (e) (k):aH a e k=k (ay a e):=by
 cases a with
 | s s=>exact eg s e k
 | c v=>rfl
theorem gI:∀ (l) (e) (k),om l e k=k (l.map (ay · e))
 | [],_,_=>rfl
 | a :: l,e,k=>by
  show aH a e (λv=>om l e λr=>k (v :: r))=_
  rw [aq,gI];rfl
theorem qC {mu} {v} {u} (h:mJ v=some u):VR mu u v/\u.one=true:=by
 unfold mJ at h
 split at h
 .cases h;exact ⟨by rfl,rfl⟩
 .rename_i k n
  split at h
  .rename_i hw
   have hw':=by simpa using hw
   cases h
   refine ⟨?_,rfl⟩
   have hm0:0<=n%(2 ^ k.bits:Nat):=Int.emod_nonneg _ (by cases k<;>decide)
   have hm1:n%(2 ^ k.bits:Nat)<(2 ^ k.bits:Nat):=Int.emod_lt_of_pos _ (by omega)
   simp only [VR,dH]
   refine ⟨?_,?_,wO k⟩
   .congr 1
    show n=k.wrap _
    rw [Int.toNat_of_nonneg hm0]
    conv=>lhs;rw [<- hw']
    unfold IntKind.wrap
    simp
   .unfold eV
    omega
  simp_all
 .cases h
  refine ⟨?_,rfl⟩
  simp only [VR]
  rw [ft]
  exact ⟨rfl,iC _⟩
 all_goals first|(cases h;exact ⟨by rfl,rfl⟩)|cases h
theorem lT {mu}:∀ {l} {r},consts l=some r->bS mu r l/\∀ u ∈ r,u.one=true
 | [],r,h=>by simp only [consts,Option.some.injEq]at h;subst h;exact ⟨by rfl,λ_ h=>absurd h (by simp)⟩
 | v :: l,r,h=>by
  simp only [consts]at h
  split at h
  .rename_i u r' h1 h2
   cases h
   obtain ⟨h3,h4⟩:=qC h1
   obtain ⟨h5,h6⟩:=lT h2
   exact ⟨by exact ⟨v,l,rfl,h3,h5⟩,λx hx=>(YP.1 hx).elim (λe=>e ▸ h4) (h6 x)⟩
  simp_all
theorem sY {mu} {v} {u} (h:AA v=some u):VR mu u v:=by
 unfold AA at h
 split at h
 .simp only [YZ]at h
  obtain ⟨r,h1,rfl⟩:=h
  exact ⟨_,rfl,(lT h1).1⟩
 .simp only [YZ]at h
  obtain ⟨r,h1,rfl⟩:=h
  exact ⟨_,rfl,(lT h1).1⟩
 .exact (qC h).1
theorem jS {mu} {nt} {e} {a:Act} {x} {ar} (ht:TR mu nt e a.tmps) (h:aJ nt x=some ar):VR mu (ay ar e) (a.eval x):=by
 unfold aJ at h
 split at h
 .rename_i t
  split at h
  .cases h
   have hs:=ht.size
   have hlt':t<a.tmps.size:=by simp_all
   have hex:=Array.getElem?_eq_getElem hlt'
   have:=ht.get t _ hex
   simpa [ay,Act.eval,hex] using this
  simp_all
 .simp only [YZ]at h
  obtain ⟨u,h1,rfl⟩:=h
  exact sY h1
 .cases h
  simp only [ay,Act.eval,VR]
  exact ⟨#[],by simp,by rfl⟩
 simp_all
def OR (mu:M) (nt:Nat) (e:Env) (a:Act) (o:Oper):Prop:=∀ x ∈ o.op.operands,∀ ar,aJ nt x=some ar->VR mu (ay ar e) (a.eval x)
theorem TR.or {mu:M} {nt:Nat} {e:Env} {a:Act} (h:TR mu nt e a.tmps) (o:Oper):OR mu nt e a o:=λ_ _ _ h1=>jS h h1
def Left (P:Program) (base:Nat) (w0:World) (rho:Nat->Option Nat) (H:Heap) (w:World) (v:V) (H':Heap) (cv:Value) (w':World):Prop:=
 ∃ rho',VR (mu rho' H' w') v cv/\PR P base w0 rho' H' w'/\Ext rho H w rho' H' w'
def eR (P:Program) (nt:Nat) (o:Oper) (e:Env) (H:Heap) (v:V) (H':Heap):Prop:=
 ∀ (rd:Option Nat) (base:Nat) (w0:World) (rho:Nat->Option Nat) (w:World) (a:Act),PR P base w0 rho H w->OR (mu rho H w) nt e a o->
  o.wpIn (WF rd) 0 P a w (λa' w'=>∃ cv,a'=a.put o.dst cv/\Left P base w0 rho H w v H' cv w') (λ_ _ _=>False)
def FSp (P:Program) (x:V) (args:List V) (H:Heap) (v:V) (H':Heap):Prop:=
 ∀ (rd:Option Nat) (base:Nat) (w0:World) (rho:Nat->Option Nat) (w:World) (cx:Value) (cargs:Array Value),PR P base w0 rho H w->VR (mu rho H w) x cx->bS (mu rho H w) args cargs.toList->
  ∀ (o:Oper) (a:Act),o.uponIn (WF rd) 0 P a (λa' w'=>∃ cv,a'=a.put o.dst cv/\Left P base w0 rho H w v H' cv w') (λ_ _ _=>False) ((do let d <- Deferred.ofValue cx cargs;invoke d.target d.args:Sem Next).run P w)
def ia (P:Program) (f:FuncId) (args:List V) (H:Heap) (v:V) (H':Heap):Prop:=
 ∀ (base:Nat) (w0:World) (rho:Nat->Option Nat) (w:World) (cargs:Array Value),PR P base w0 rho H w->bS (mu rho H w) args cargs.toList->
  (callFunc f cargs).run P w = .ok (.enter f cargs) w/\CallsIn (WF none) 0 P f cargs w λe w'=>∃ cv,e = .returned cv/\Left P base w0 rho H w v H' cv w'
def FSq (P:Program) (x:V) (args:List V) (H:Heap) (v:V) (H':Heap):Prop:=FSp P x args H v H'/\∀ f caps,x = .func (2*f) caps->ia P f (args ++ caps) H v H'
def iP (P:Program) (ph:cW):Prop:=∀ x args H k,ph x args H k=1->∃ v H',FSq P x args H v H'/\k v H'=1
theorem iq (P) (o:Oper) (a:Act) (w) (rd):∀ f,o.about P w a.eval=some f->(WF rd).fn f:=λ_ _=>trivial
theorem semAt_eq {o} {rd} {r} (h:∀ c,o.op ≠ .defer c):o.semAt rd r=execOp r o:=by
 unfold Oper.semAt
 simp_all
theorem eR.of_run {P:Program} {nt:Nat} {o:Oper} {e:Env} {H H':Heap} {v:V} (hnd:∀ c,o.op ≠ .defer c)
 (h:∀ (base:Nat) (w0:World) (rho:Nat->Option Nat) (w:World) (a:Act),PR P base w0 rho H w->OR (mu rho H w) nt e a o->∃ cv w',(execOp a.eval o).run P w = .ok (.value cv) w'/\Left P base w0 rho H w v H' cv w'):eR P nt o e H v H':=by
 intro rd base w0 rho w a hp ho
 obtain ⟨cv,w',h1,h2⟩:=h base w0 rho w a hp ho
 refine ⟨iq P o a w rd,?_⟩
 rw [semAt_eq hnd,h1]
 exact ⟨cv,rfl,h2⟩
theorem eR.Bq {P:Program} {nt:Nat} {o:Oper} {e:Env} {H H':Heap} (hnd:∀ c,o.op ≠ .defer c)
 (h:∀ (base:Nat) (w0:World) (rho:Nat->Option Nat) (w:World) (a:Act),PR P base w0 rho H w->OR (mu rho H w) nt e a o->∃ w',(execOp a.eval o).run P w = .ok .skip w'/\∃ rho',PR P base w0 rho' H' w'/\Ext rho H w rho' H' w'):eR P nt o e H (.cV []) H':=by
 intro rd base w0 rho w a hp ho
 obtain ⟨w',h1,rho',h2,h3⟩:=h base w0 rho w a hp ho
 refine ⟨iq P o a w rd,?_⟩
 rw [semAt_eq hnd,h1]
 exact ⟨undef,rfl,rho',by simp only [VR];exact ⟨#[],rfl,by simp only [bS]⟩,h2,h3⟩
theorem eR.bD {P:Program} {nt:Nat} {o:Oper} {e:Env} {H:Heap} {v:V} (hnd:∀ c,o.op ≠ .defer c)
 (h:∀ (m:M) (w:World) (a:Act),OR m nt e a o->∃ cv,(execOp a.eval o).run P w = .ok (.value cv) w/\VR m v cv):eR P nt o e H v H:=
 eR.of_run hnd λbase w0 rho w a hp ho=>by
  obtain ⟨cv,h1,h2⟩:=h _ w a ho
  exact ⟨cv,w,h1,rho,h2,hp,Ext.refl hp.lt⟩
section
variable {P:Program} {nt:Nat} {o:Oper} {id:Nat} {ph:cW} {e:Env} {H:Heap} {k:K}
def Good (P:Program) (nt:Nat) (o:Oper) (e:Env) (H:Heap) (k:K):Prop:=∃ v H',eR P nt o e H v H'/\k v H'=1
theorem Pp {x} (hop:o.op = .move x\/o.op = .assign x) (h:aM (af P nt o) id ph e H k=1):Good P nt o e H k:=by
 have hc:af P nt o=match aJ nt x with|some a=>.iV a|none=>.bad:=by rcases hop with h|h<;>simp only [af,h]<;>rfl
 rw [hc]at h
 split at h
 .rename_i a ha
  have h':aH a e (λv=>k v H)=1:=h
  rw [aq]at h'
  refine ⟨_,_,eR.bD (by grind) λm w ac ho=>?_,h'⟩
  exact ⟨ac.eval x,by rcases hop with h|h<;>simp [execOp,h],ho x (by rcases hop with h|h<;>simp [Op.operands,h]) a ha⟩
 .exact (au h).elim
theorem Ze {c x y} (hop:o.op = .pick c x y) (h:aM (af P nt o) id ph e H k=1):Good P nt o e H k:=by
 simp only [af,hop]at h
 split at h
 .rename_i c' x' y' hc hx hy
  have h':aH c' e (λc=>eJ id c λb=>aD b (aH x' e λv=>k v H) (aH y' e λv=>k v H))=1:=h
  rw [aq]at h'
  obtain ⟨b,hb,h2⟩:=mq h'
  rw [aq,aq]at h2
  cases b
  .refine ⟨_,_,eR.bD (by simp_all) λm w ac ho=>?_,h2⟩
   have h3:=ho c (by simp [Op.operands,hop]) c' hc
   rw [hb]at h3
   simp only [VR]at h3
   exact ⟨ac.eval y,by simp [execOp,hop,h3,asBool],ho y (by simp [Op.operands,hop]) y' hy⟩
  .refine ⟨_,_,eR.bD (by simp_all) λm w ac ho=>?_,h2⟩
   have h3:=ho c (by simp [Op.operands,hop]) c' hc
   rw [hb]at h3
   simp only [VR]at h3
   exact ⟨ac.eval x,by simp [execOp,hop,h3,asBool],ho x (by simp [Op.operands,hop]) x' hx⟩
 .exact (au h).elim
end
end Go.Ev
end
section
namespace Go.Ev
theorem eY (m n:Nat):YK m n=decide (m=n):=by
 by_cases h:m=n
 .simp_all
 .rw [decide_eq_false h]
  cases hq:YK m n with
  | false=>rfl
  | true=>simp_all
theorem P5 (k:IntKind) (x):k.wrap x%(2 ^ k.bits:Int)=x%(2 ^ k.bits:Int):=by
 cases k<;>simp only [IntKind.wrap,IntKind.bits,IntKind.signed,YL2,Qf]<;>(simp)<;>omega
theorem rh (k:IntKind) {x y} (h:x%(2 ^ k.bits:Int)=y%(2 ^ k.bits:Int)):k.wrap x=k.wrap y:=by
 unfold IntKind.wrap
 rw [h]
theorem ZW (k):((eV k:Nat):Int)=2 ^ k.bits:=by rfl
theorem py (k) {x} {n:Nat} (h:x%(2 ^ k.bits:Int)=(n:Int)%(2 ^ k.bits:Int)):k.wrap x=toI k n:=rh k h
theorem toI_mod (k) (n):toI k n%(2 ^ k.bits:Int)=(n:Int)%(2 ^ k.bits:Int):=P5 k _
theorem wN (k):0<eV k:=by cases k<;>decide
theorem toI_small (k) (n) (h:n<half k):toI k n=n:=by
 show k.wrap (n:Int)=n
 cases k<;>simp only [half,IntKind.wrap,IntKind.bits,IntKind.signed,YL2,Qf,if_true,YN,if_false]at * <;> (simp)<;>first|omega|(simp at h2)|rfl
theorem toI_off (k) (n) (h:n<eV k):toI k n=(((n+fp k)%2 ^ k.bits:Nat):Int)-(fp k:Nat):=by
 show k.wrap (n:Int)=_
 cases k<;>simp [fp,IntKind.wrap,IntKind.bits,IntKind.signed]at * <;> (omega)<;>omega
theorem toI_inj (k) {a b} (ha:a<eV k) (hb:b<eV k) (h:toI k a=toI k b):a=b:=by
 have h1:=toI_mod k a
 rw [h,toI_mod k b]at h1
 have e1:(a:Int)%2 ^ k.bits=a:=YF2 (by omega) (by exact_mod_cast ha)
 have e2:(b:Int)%2 ^ k.bits=b:=YF2 (by omega) (by exact_mod_cast hb)
 omega
theorem toI_64 {n} {kd} (hk:3<=kd) (hk8:kd<8) (h:n<9223372036854775808) (hm:n<eV (oG kd)):toI (oG kd) n=n:=by
 refine toI_small _ _ ?_
 rcases (by omega:kd=3\/kd=4\/kd=5\/kd=6\/kd=7) with rfl|rfl|rfl|rfl|rfl<;>simp [oG,half,IntKind.signed,IntKind.bits,eV]at * <;> omega
theorem tR (k) {a} (h:a<eV k):BitVec.ofInt k.bits (toI k a)=BitVec.ofNat k.bits a:=by
 apply BitVec.eq_of_toNat_eq
 rw [BitVec.toNat_ofInt,BitVec.toNat_ofNat]
 have:=toI_mod k a
 grind
section
variable {P:Program} {w:World}
theorem Mh {t:TypeId} {op:BinOp} {k ky:IntKind} {f:BF} {id a b:Nat} {c:Nat->R} (hf:V2 op k=some f) (hky:(rX op=false/\ky=k)\/(rX op=true/\(ky.signed=true->ky.bits=64)))
 (h:iS id f a b c=1):∃ r,c r=1/\(a<eV k->b<eV ky->r<eV k/\∀ w:World,(binOp op t (.int k (toI k a)) (.int ky (toI ky b))).run P w = .ok (.int k (toI k r)) w):=by
 have hM:(0:Int)<2 ^ k.bits:=by cases k<;>decide
 have hMn:eV k=2 ^ k.bits:=rfl
 have hpos:=wN k
 have am:=toI_mod k a
 cases op<;>simp only [V2,Option.some.injEq,reduceCtorEq]at hf<;>subst hf
 .rcases hky with ⟨_,rfl⟩|⟨hs,_⟩
  .have bm:=toI_mod ky b
   have h':av (Ys (YW a b) (2 ^ ky.bits)) c=1:=h
   rw [aw]at h'
   refine ⟨_,h',λha hb=>⟨Qa _ hpos,λw=>?_⟩⟩
   simp only [binOp,ne_eq,not_true_eq_false,if_false,Op.intArith,Sem.run_pure]
   congr 2
   refine py ky ?_
   rw [Int.add_emod,am,bm,<- Int.add_emod]
   show _=(((a+b)%2 ^ ky.bits:Nat):Int)%_
   simp
  .cases hs
 .rcases hky with ⟨_,rfl⟩|⟨hs,_⟩
  .have bm:=toI_mod ky b
   have h':av (Ys (YW a (Wv (2 ^ ky.bits) b)) (2 ^ ky.bits)) c=1:=h
   rw [aw]at h'
   refine ⟨_,h',λha hb=>⟨Qa _ hpos,λw=>?_⟩⟩
   simp only [binOp,ne_eq,not_true_eq_false,if_false,Op.intArith,Sem.run_pure]
   congr 2
   refine py ky ?_
   rw [Int.sub_emod,am,bm,<- Int.sub_emod]
   show _=(((a+(2 ^ ky.bits-b))%2 ^ ky.bits:Nat):Int)%_
   have hb':b<2 ^ ky.bits:=hb
   rw [Int.natCast_emod,Int.natCast_add,Int.natCast_sub (QN hb')]
   simp only [Int.natCast_pow,Int.cast_ofNat_Int,Int.emod_emod_of_dvd _ (Int.dvd_refl _)]
   rw [show (a:Int)+(2 ^ ky.bits-(b:Int))=((a:Int)-b)+2 ^ ky.bits by omega,Int.add_emod_right]
  .cases hs
 .rcases hky with ⟨_,rfl⟩|⟨hs,_⟩
  .have bm:=toI_mod ky b
   have h':av (Ys (Yh a b) (2 ^ ky.bits)) c=1:=h
   rw [aw]at h'
   refine ⟨_,h',λha hb=>⟨Qa _ hpos,λw=>?_⟩⟩
   simp only [binOp,ne_eq,not_true_eq_false,if_false,Op.intArith,Sem.run_pure]
   congr 2
   refine py ky ?_
   rw [YH2,am,bm,<- YH2]
   show _=(((a*b)%2 ^ ky.bits:Nat):Int)%_
   simp
  .cases hs
 .rcases hky with ⟨_,rfl⟩|⟨hs,_⟩
  .have h':aD (Yy a (half ky)) (aD (Yy b (half ky)) (aD (YK b 0) (no _) (av (Wf a b) c)) (no _)) (no _)=1:=h
   obtain ⟨h1,h2⟩:=aK h'
   obtain ⟨h3,h4⟩:=aK h2
   rcases bO h4 with ⟨_,h5⟩|⟨h5,h6⟩
   .exact (au h5).elim
   .rw [aw]at h6
    have hb0:b≠0:=λe=>by subst e;cases h5
    have ha':=er h1
    have hdv:a/b<half ky:=Wk (YI2 a b) ha'
    refine ⟨_,h6,λha hb=>⟨Wk (YI2 a b) ha,λw=>?_⟩⟩
    rw [toI_small ky a ha',toI_small ky b (er h3)]
    have hz:(b:Int)≠0:=by omega
    simp only [binOp,ne_eq,not_true_eq_false,if_false,Op.intDiv,hz,Sem.run_pure]
    congr 2
  .cases hs
 .rcases hky with ⟨_,rfl⟩|⟨hs,_⟩
  .have h':aD (Yy a (half ky)) (aD (Yy b (half ky)) (aD (YK b 0) (no _) (av (Ys a b) c)) (no _)) (no _)=1:=h
   obtain ⟨h1,h2⟩:=aK h'
   obtain ⟨h3,h4⟩:=aK h2
   rcases bO h4 with ⟨_,h5⟩|⟨h5,h6⟩
   .exact (au h5).elim
   .rw [aw]at h6
    have hb0:b≠0:=λe=>by subst e;cases h5
    have ha':=er h1
    have hdv:a%b<half ky:=Wk (Nat.mod_le a b) ha'
    refine ⟨_,h6,λha hb=>⟨Wk (Nat.mod_le a b) ha,λw=>?_⟩⟩
    rw [toI_small ky a ha',toI_small ky b (er h3)]
    have hz:(b:Int)≠0:=by omega
    simp only [binOp,ne_eq,not_true_eq_false,if_false,Op.intDiv,hz,Sem.run_pure]
    congr 2
    show (a:Int).tmod (b:Int)=toI ky (a%b)
    rw [toI_small ky _ hdv]
    rfl
  .cases hs
 .rcases hky with ⟨_,rfl⟩|⟨hs,_⟩
  .have h':av (Qu a b) c=1:=h
   rw [aw]at h'
   refine ⟨_,h',λha hb=>⟨Wk YO2 ha,λw=>?_⟩⟩
   simp only [binOp,ne_eq,not_true_eq_false,if_false,Op.intBits,tR ky ha,tR ky hb,Sem.run_pure]
   congr 2
   show ky.wrap _=toI ky (a &&& b)
   rw [BitVec.toNat_and,BitVec.toNat_ofNat,BitVec.toNat_ofNat,Yr (show a<2 ^ ky.bits from ha),Yr (show b<2 ^ ky.bits from hb)]
   rfl
  .cases hs
 .rcases hky with ⟨_,rfl⟩|⟨hs,_⟩
  .have h':av (Nat.lor a b) c=1:=h
   rw [aw]at h'
   refine ⟨_,h',λha hb=>⟨Nat.or_lt_two_pow (n:=ky.bits) ha hb,λw=>?_⟩⟩
   simp only [binOp,ne_eq,not_true_eq_false,if_false,Op.intBits,tR ky ha,tR ky hb,Sem.run_pure]
   congr 2
   show ky.wrap _=toI ky (a ||| b)
   rw [BitVec.toNat_or,BitVec.toNat_ofNat,BitVec.toNat_ofNat,Yr (show a<2 ^ ky.bits from ha),Yr (show b<2 ^ ky.bits from hb)]
   rfl
  .cases hs
 .rcases hky with ⟨_,rfl⟩|⟨hs,_⟩
  .have h':av (YM2 a b) c=1:=h
   rw [aw]at h'
   refine ⟨_,h',λha hb=>⟨Nat.xor_lt_two_pow (n:=ky.bits) ha hb,λw=>?_⟩⟩
   simp only [binOp,ne_eq,not_true_eq_false,if_false,Op.intBits,tR ky ha,tR ky hb,Sem.run_pure]
   congr 2
   show ky.wrap _=toI ky (a ^^^ b)
   rw [BitVec.toNat_xor,BitVec.toNat_ofNat,BitVec.toNat_ofNat,Yr (show a<2 ^ ky.bits from ha),Yr (show b<2 ^ ky.bits from hb)]
   rfl
  .cases hs
 .rcases hky with ⟨hs,_⟩|⟨_,hk⟩
  .cases hs
  have hbs:∀ (hb:b<eV ky) (hlt:b<9223372036854775808),toI ky b=b:=λhb hlt=>by
   refine toI_small _ _ ?_
   unfold half eV at *
   grind
  have hbits:k.bits<=64:=by cases k<;>decide
  have h':aD (YS b k.bits) (av (Ys (Yq a b) (2 ^ k.bits)) c) (aD (Yy b 9223372036854775808) (c 0) (no _))=1:=h
  rcases bO h' with ⟨h1,h2⟩|⟨h1,h2⟩
  .have hle:=bU h1
   rw [aw]at h2
   refine ⟨_,h2,λha hb=>⟨Qa _ hpos,λw=>?_⟩⟩
   have hn:¬ ((b:Int)<0):=by omega
   simp only [binOp,Op.shift,hbs hb (by omega),hn,if_false,Sem.run_pure,Qp,QK hle]
   congr 2
   refine py k ?_
   rw [YH2,am,<- YH2]
   show _=(((a <<< b)%2 ^ k.bits:Nat):Int)%_
   rw [Qe]
   simp
  .obtain ⟨h3,h4⟩:=aK h2
   have hgt:k.bits<=b:=by
    rcases Yf k.bits b with hlt|hge
    .omega
    .rw [WS hge]at h1;cases h1
   refine ⟨0,h4,λha hb=>⟨hpos,λw=>?_⟩⟩
   have hn:¬ ((b:Int)<0):=by omega
   simp only [binOp,Op.shift,hbs hb (er h3),hn,if_false,Sem.run_pure,Qp,Qr hgt]
   congr 2
   refine py k ?_
   simp
 .rcases hky with ⟨hs,_⟩|⟨_,hk⟩
  .cases hs
  have hbs:∀ (hb:b<eV ky) (hlt:b<9223372036854775808),toI ky b=b:=λhb hlt=>by
   refine toI_small _ _ ?_
   unfold half eV at *
   grind
  have hbits:k.bits<=64:=by cases k<;>decide
  have h':aD (Yy a (half k)) (aD (YS b k.bits) (av (Yz a b) c) (aD (Yy b 9223372036854775808) (c 0) (no _))) (no _)=1:=h
  obtain ⟨h0,h0'⟩:=aK h'
  have ha':=er h0
  have hn:¬ ((b:Int)<0):=by omega
  rcases bO h0' with ⟨h1,h2⟩|⟨h1,h2⟩
  .have hle:=bU h1
   rw [aw]at h2
   have hsm:a >>> b<=a:=by rw [WA];exact YI2 _ _
   refine ⟨_,h2,λha hb=>⟨Wk hsm ha,λw=>?_⟩⟩
   simp only [binOp,Op.shift,hbs hb (by omega),hn,if_false,Sem.run_pure,Qp,QK hle,toI_small k a ha']
   congr 2
   show (a:Int).fdiv (2 ^ b)=toI k (a >>> b)
   rw [toI_small k _ (Wk hsm ha'),WA,YD4 _ (by grind)]
   simp
  .obtain ⟨h3,h4⟩:=aK h2
   have hgt:k.bits<=b:=by
    rcases Yf k.bits b with hlt|hge
    .omega
    .rw [WS hge]at h1;cases h1
   refine ⟨0,h4,λha hb=>⟨hpos,λw=>?_⟩⟩
   simp only [binOp,Op.shift,hbs hb (er h3),hn,if_false,Sem.run_pure,Qp,Qr hgt,toI_small k a ha']
   congr 2
   show (a:Int).fdiv (2 ^ k.bits)=toI k 0
   rw [toI_small k 0 (by grind),YD4 _ (by grind)]
   have:(a:Int)<2 ^ k.bits:=by grind
   rw [Int.ediv_eq_zero_of_lt (by omega) this]
   rfl
 .rcases hky with ⟨_,rfl⟩|⟨hs,_⟩
  .have h':av (Qu a (YM2 b (Nat.pred (2 ^ ky.bits)))) c=1:=h
   rw [aw]at h'
   refine ⟨_,h',λha hb=>⟨Wk YO2 ha,λw=>?_⟩⟩
   simp only [binOp,ne_eq,not_true_eq_false,if_false,Op.intBits,tR ky ha,tR ky hb,Sem.run_pure]
   rw [<- BitVec.xor_allOnes,BitVec.toNat_and,BitVec.toNat_xor,BitVec.toNat_allOnes,BitVec.toNat_ofNat,BitVec.toNat_ofNat,Yr (show a<2 ^ ky.bits from ha),Yr (show b<2 ^ ky.bits from hb)]
   rfl
  .cases hs
theorem aa1 {t} {op} {k} {f} {a b} (hf:Xg op k=some f) (ha:a<eV k) (hb:b<eV k):
 (binOp op t (.int k (toI k a)) (.int k (toI k b))).run P w = .ok (.bool (dW f a b)) w:=by
 have oa:=toI_off k a ha
 have ob:=toI_off k b hb
 have hinj:toI k a=toI k b↔a=b:=⟨toI_inj k ha hb,λe=>by rw [e]⟩
 have hbeq:=by
  exact eY a b
 have hblt:∀ m n,Yy m n=decide (m<n):=λm n=>by
  by_cases h:m<n
  .simp_all
  .rw [decide_eq_false h]
   cases hq:Yy m n with
   | false=>rfl
   | true=>exact absurd (er hq) h
 have hble:∀ m n,YS m n=decide (m<=n):=λm n=>by
  by_cases h:m<=n
  .simp_all
  .rw [decide_eq_false h]
   cases hq:YS m n with
   | false=>rfl
   | true=>exact absurd (bU hq) h
 cases op<;>simp only [Xg,Option.some.injEq,reduceCtorEq]at hf<;>subst hf<;>simp only [binOp,ne_eq,not_true_eq_false,if_false,Op.intCmp,Sem.run_pure]
 .congr 2
  show (toI k a == toI k b)=YK a b
  grind
 .congr 2
  show (toI k a != toI k b)=Bool.rec true false (YK a b)
  rw [hbeq]
  by_cases h:a=b<;>simp [h,hinj]
 .congr 2
  show decide (toI k a<toI k b)=Yy ((a+fp k)%2 ^ k.bits) ((b+fp k)%2 ^ k.bits)
  grind
 .congr 2
  show decide (toI k a<=toI k b)=YS ((a+fp k)%2 ^ k.bits) ((b+fp k)%2 ^ k.bits)
  grind
 .congr 2
  show decide (toI k a>toI k b)=Yy ((b+fp k)%2 ^ k.bits) ((a+fp k)%2 ^ k.bits)
  grind
 .congr 2
  show decide (toI k a>=toI k b)=YS ((b+fp k)%2 ^ k.bits) ((a+fp k)%2 ^ k.bits)
  grind
theorem Zn {l m n} (hm:m<256 ^ l) (hn:n<256 ^ l):((⟨(aA l m).toArray⟩:ByteArray).toList == (⟨(aA l n).toArray⟩:ByteArray).toList)=YK m n:=by
 have hbeq:=by
  exact eY m n
 rw [hbeq]
 by_cases h:m=n
 .simp_all
 .rw [decide_eq_false h]
  simp only [beq_eq_false_iff_ne,ne_eq]
  intro e
  rw [ByteArray.toList_eq,ByteArray.toList_eq]at e
  exact h (qV hm hn (by omega))
end
end Go.Ev
end
section
set_option maxRecDepth 10000
namespace Go.Ev
open Go.RowKit
section
variable {P:Program} {nt:Nat} {o:Oper} {id:Nat} {ph:cW} {e:Env} {H:Heap} {k:K}
theorem Zd {x} (hop:o.op = .nilCheck x) (h:aM (af P nt o) id ph e H k=1):Good P nt o e H k:=by
 simp only [af,hop]at h
 split at h
 .rename_i a ha
  have h':aH a e _=1:=h
  rw [aq]at h'
  have key:k (ay a e) H=1/\ay a e ≠ .jk/\ay a e ≠ .tz/\ay a e ≠ .Eb:=by
   generalize ay a e=v at h'
   cases v<;>first|exact (au h').elim|simp_all
  refine ⟨_,_,eR.bD (by simp_all) λm w ac ho=>?_,key.1⟩
  have h3:=ho x (by simp [Op.operands,hop]) a ha
  refine ⟨ac.eval x,?_,h3⟩
  obtain ⟨_,h4,h5,h6⟩:=key
  generalize ay a e=v at h3 h4 h5 h6
  cases v<;>simp only [VR]at h3<;>
   first
   | grind
   | grind
   | grind
   | (simp [execOp,hop,h3];done)
   | rfl
   | (obtain ⟨c,h3,_⟩:=h3;simp [execOp,hop,h3])
   | (obtain ⟨c,d,o,sp,h3,_⟩:=h3;simp [execOp,hop,h3])
 .exact (au h).elim
theorem nC {op} {t} {x y} {k1 k2} {a b} {w}:(eqGuard op t x y (.int k1 a) (.int k2 b)).run P w = .ok () w:=by
 unfold eqGuard
 simp
theorem nD {op} {t} {x y} {a b} {w}:(eqGuard op t x y (.string a) (.string b)).run P w = .ok () w:=by
 unfold eqGuard
 simp
theorem AQ {kd ky} {f} {x y} (h:Ke kd ky f x y id ph e H k=1):∃ a b,ay x e = .int kd a/\ay y e = .int ky b/\iS id f a b (λr=>k (.int kd r) H)=1:=by
 unfold Ke at h
 rw [aq]at h
 obtain ⟨k1,a,ha,h1⟩:=dE h
 rw [aq]at h1
 obtain ⟨k2,b,hb,h2⟩:=dE h1
 obtain ⟨h3,h4⟩:=aK h2
 obtain ⟨h5,h6⟩:=aK h4
 simp_all
def nc:V->Option Nat
 | .bool true=>some 2 | .bool false=>some 3 | .ptr _ _=>some 11 | .jk=>some 10 | .slice _ _ _ _ _=>some 21 | .aB=>some 20 | .map _=>some 31 | .xd=>some 30
 | .func _ _=>some 41 | .tz=>some 40 | .iface _ _=>some 51 | .Eb=>some 50 | _=>none
theorem Ec {x} {k} (h:fY id x k=1):∃ c,nc x=some c/\k c=1:=by
 cases x<;>first|exact (au h).elim|exact ⟨_,rfl,h⟩|(rename_i b;cases b<;>exact ⟨_,rfl,h⟩)
theorem S4 {kc} {neg} {x y} (h:SZ kc neg x y id ph e H k=1):∃ a b,nc (ay x e)=some a/\nc (ay y e)=some b/\a/10=kc/\b/10=kc/\(a=b->a%10≠1)/\k (.bool (if neg then !decide (a=b) else decide (a=b))) H=1:=by
 unfold SZ at h
 rw [aq]at h
 obtain ⟨a,h1,h2⟩:=Ec h
 rw [aq]at h2
 obtain ⟨b,h3,h4⟩:=Ec h2
 obtain ⟨h5,h6⟩:=aK h4
 obtain ⟨h7,h8⟩:=aK h6
 refine ⟨a,b,h1,h3,bT h5,bT h7,?_⟩
 rcases bO h8 with ⟨h9,h10⟩|⟨h9,h10⟩
 .have e:=bT h9
  subst e
  rcases bO h10 with ⟨_,h11⟩|⟨h11,h12⟩
  .exact (au h11).elim
  .rw [eY]at h11
   have h11':=of_decide_eq_false h11
   refine ⟨λ_=>h11',?_⟩
   rcases bO h12 with ⟨h13,h14⟩|⟨h13,h14⟩<;>subst h13<;>simpa using h14
 .rw [eY]at h9
  simp_all
theorem Ox {x} {a} (h:nc x=some a) (hk:a/10=1):(x = .jk/\a=10)\/∃ b o,x = .ptr b o/\a=11:=by
 cases x<;>simp only [nc,Option.some.injEq,reduceCtorEq]at h<;>(simp)<;>first|grind|grind|omega|grind
theorem D7 {x} {a} (h:nc x=some a) (hk:a/10=2):(x = .aB/\a=20)\/∃ b o l c s,x = .slice b o l c s/\a=21:=by
 cases x<;>simp only [nc,Option.some.injEq,reduceCtorEq]at h<;>(simp)<;>first|grind|grind|omega|grind
theorem Ow {x} {a} (h:nc x=some a) (hk:a/10=3):(x = .xd/\a=30)\/∃ b,x = .map b/\a=31:=by
 cases x<;>simp only [nc,Option.some.injEq,reduceCtorEq]at h<;>(simp)<;>first|grind|grind|omega|grind
theorem Jw {x} {a} (h:nc x=some a) (hk:a/10=4):(x = .tz/\a=40)\/∃ f l,x = .func f l/\a=41:=by
 cases x<;>simp only [nc,Option.some.injEq,reduceCtorEq]at h<;>(simp)<;>first|grind|grind|omega|grind
theorem D6 {x} {a} (h:nc x=some a) (hk:a/10=5):(x = .Eb/\a=50)\/∃ t v,x = .iface t v/\a=51:=by
 cases x<;>simp only [nc,Option.some.injEq,reduceCtorEq]at h<;>(simp)<;>first|grind|grind|omega|grind
theorem Jv {x} {a} (h:nc x=some a) (hk:a/10=0):(x = .bool true/\a=2)\/(x = .bool false/\a=3):=by
 cases x<;>simp only [nc,Option.some.injEq,reduceCtorEq]at h<;>(simp)<;>first|omega|grind
def UE (P:Program) (kc:Nat) (t:TypeId):Prop:=(kc=0/\P.underlying t=some .bool)\/(kc=1/\∃ d,P.underlying t=some (.pointer d))\/(kc=2/\∃ d,P.underlying t=some (.slice d))\/(kc=3/\∃ d d',P.underlying t=some (.map d d'))\/(kc=4/\∃ d d' d'',P.underlying t=some (.func d d' d''))\/(kc=5/\∃ d,P.underlying t=some (.interface d))
theorem S8 {kc:Nat} {t:TypeId} {m:M} {x y:V} {cx cy:Value} {a b:Nat} {w:World} (hu:UE P kc t)
 (hx:VR m x cx) (hy:VR m y cy) (ha:nc x=some a) (hb:nc y=some b) (hka:a/10=kc) (hkb:b/10=kc) (hab:a=b->a%10≠1):(Op.equal t cx cy).run P w = .ok (decide (a=b)) w:=by
 show (Op.equalIn (9999+1) t cx cy).run P w=_
 generalize 9999=dd
 rcases hu with ⟨rfl,hu⟩|⟨rfl,d,hu⟩|⟨rfl,d,hu⟩|⟨rfl,d,d',hu⟩|⟨rfl,d,d',d'',hu⟩|⟨rfl,d,hu⟩
 .rcases Jv ha hka with ⟨rfl,rfl⟩|⟨rfl,rfl⟩<;>rcases Jv hb hkb with ⟨rfl,rfl⟩|⟨rfl,rfl⟩<;>simp only [VR]at hx hy<;>subst hx hy<;>
   (simp only [Op.equalIn,Sem.run_bind,run_underlying hu,Result.andThen_ok];rfl)
 .rcases Ox ha hka with ⟨rfl,rfl⟩|⟨p,q,rfl,rfl⟩<;>rcases Ox hb hkb with ⟨rfl,rfl⟩|⟨p',q',rfl,rfl⟩<;>simp only [VR]at hx hy<;>first|exact absurd rfl (hab rfl)|skip
  .subst hx hy; (simp only [Op.equalIn,Sem.run_bind,run_underlying hu,Result.andThen_ok];rfl)
  .obtain ⟨c,rfl,_⟩:=hy;subst hx; (simp only [Op.equalIn,Sem.run_bind,run_underlying hu,Result.andThen_ok];rfl)
  .obtain ⟨c,rfl,_⟩:=hx;subst hy; (simp only [Op.equalIn,Sem.run_bind,run_underlying hu,Result.andThen_ok];rfl)
 .rcases D7 ha hka with ⟨rfl,rfl⟩|⟨p,q,r,s,s1,rfl,rfl⟩<;>rcases D7 hb hkb with ⟨rfl,rfl⟩|⟨p',q',r',s',s2,rfl,rfl⟩<;>simp only [VR]at hx hy<;>first|exact absurd rfl (hab rfl)|skip
  .subst hx hy; (simp only [Op.equalIn,Sem.run_bind,run_underlying hu,Result.andThen_ok];rfl)
  .obtain ⟨c,cap,o',sp,rfl,_⟩:=hy;subst hx; (simp only [Op.equalIn,Sem.run_bind,run_underlying hu,Result.andThen_ok];rfl)
  .obtain ⟨c,cap,o',sp,rfl,_⟩:=hx;subst hy; (simp only [Op.equalIn,Sem.run_bind,run_underlying hu,Result.andThen_ok];rfl)
 .rcases Ow ha hka with ⟨rfl,rfl⟩|⟨p,rfl,rfl⟩<;>rcases Ow hb hkb with ⟨rfl,rfl⟩|⟨p',rfl,rfl⟩<;>simp only [VR]at hx hy<;>first|exact absurd rfl (hab rfl)|skip
  .subst hx hy; (simp only [Op.equalIn,Sem.run_bind,run_underlying hu,Result.andThen_ok];rfl)
  .obtain ⟨c,rfl,_⟩:=hy;subst hx; (simp only [Op.equalIn,Sem.run_bind,run_underlying hu,Result.andThen_ok];rfl)
  .obtain ⟨c,rfl,_⟩:=hx;subst hy; (simp only [Op.equalIn,Sem.run_bind,run_underlying hu,Result.andThen_ok];rfl)
 .rcases Jw ha hka with ⟨rfl,rfl⟩|⟨p,q,rfl,rfl⟩<;>rcases Jw hb hkb with ⟨rfl,rfl⟩|⟨p',q',rfl,rfl⟩<;>simp only [VR]at hx hy<;>first|exact absurd rfl (hab rfl)|skip
  .subst hx hy; (simp only [Op.equalIn,Sem.run_bind,run_underlying hu,Result.andThen_ok];rfl)
  .obtain ⟨c,rfl,_⟩:=hy;subst hx; (simp only [Op.equalIn,Sem.run_bind,run_underlying hu,Result.andThen_ok];rfl)
  .obtain ⟨c,rfl,_⟩:=hx;subst hy; (simp only [Op.equalIn,Sem.run_bind,run_underlying hu,Result.andThen_ok];rfl)
 .rcases D6 ha hka with ⟨rfl,rfl⟩|⟨p,q,rfl,rfl⟩<;>rcases D6 hb hkb with ⟨rfl,rfl⟩|⟨p',q',rfl,rfl⟩<;>simp only [VR]at hx hy<;>first|exact absurd rfl (hab rfl)|skip
  .subst hx hy; (simp only [Op.equalIn,Sem.run_bind,run_underlying hu,Result.andThen_ok];rfl)
  .obtain ⟨c,rfl,_⟩:=hy;subst hx; (simp only [Op.equalIn,Sem.run_bind,run_underlying hu,Result.andThen_ok];rfl)
  .obtain ⟨c,rfl,_⟩:=hx;subst hy; (simp only [Op.equalIn,Sem.run_bind,run_underlying hu,Result.andThen_ok];rfl)
theorem Oy {m} {x} {cx} {a} (hx:VR m x cx) (ha:nc x=some a):(∀ l,cx ≠ .agg l)/\(cx = .nilIface->a/10=5):=by
 cases x<;>simp only [VR]at hx<;>
  first
  | (simp only [nc,reduceCtorEq]at ha;done)
  | (subst hx;refine ⟨λ_=>nofun,λe=>?_⟩;first | rfl | (simp only [nc,Option.some.injEq]at ha;omega))
  | rfl
  | grind
  | grind
theorem uG {op} {kc} {t} {m} {ox oy} {x y} {cx cy} {a b} {w} (hx:VR m x cx) (hy:VR m y cy) (ha:nc x=some a) (hb:nc y=some b) (hka:a/10=kc) (hkb:b/10=kc)
 (hc:kc=5->(∃ v,ox = .const v)\/∃ v,oy = .const v):(eqGuard op t ox oy cx cy).run P w = .ok () w:=by
 obtain ⟨h1,h2⟩:=Oy hx ha
 unfold eqGuard
 cases op<;>try rfl
 all_goals
  cases cx<;>try rfl
  case agg l=>simp_all
  case nilIface=>
   cases cy<;>try rfl
   rcases hc (hka.symm.trans (h2 rfl)) with ⟨v,rfl⟩|⟨v,rfl⟩
   .rfl
   simp
theorem yM {x} {ar} {nt} {e} (h:aJ nt x=some ar) (hi:isC ar=true) {a} (hn:nc (ay ar e)=some a) (hk:a/10=5):∃ v,x = .const v:=by
 unfold aJ at h
 split at h
 .split at h<;>cases h;cases hi
 .simp
 .cases h
  simp [ay,nc]at hn
  omega
 simp_all
theorem lX {kc:Nat} {op:BinOp} {xt yt:TypeId} {x y:Operand} {x' y':Arg} (hop:o.op = .binOp op xt x y yt) (hx:aJ nt x=some x') (hy:aJ nt y=some y') (hu:UE P kc xt) (hc:kc=5->isC x'=true\/isC y'=true)
 (h:aM (nh kc op x' y') id ph e H k=1):Good P nt o e H k:=by
 have mem:x ∈ o.op.operands/\y ∈ o.op.operands:=by simp [hop,Op.operands]
 have hnd:∀ c,o.op ≠ .defer c:=by simp [hop]
 have key:∀ neg:Bool,(op=if neg then .neq else .eql)->SZ kc neg x' y' id ph e H k=1->Good P nt o e H k:=by
  intro neg hneg h'
  obtain ⟨a,b,h1,h2,h3,h4,h5,h6⟩:=S4 h'
  refine ⟨_,_,eR.bD hnd λm w ac ho=>?_,h6⟩
  have vx:=ho x mem.1 x' hx
  have vy:=ho y mem.2 y' hy
  have hc':kc=5->(∃ v,x = .const v)\/∃ v,y = .const v:=λe5=>(hc e5).imp (λhi=>yM hx hi h1 (h3.trans e5)) (λhi=>yM hy hi h2 (h4.trans e5))
  have hr:=S8 (w:=w) hu vx vy h1 h2 h3 h4 h5
  have hg:=uG (P:=P) (op:=op) (t:=xt) (w:=w) vx vy h1 h2 h3 h4 hc'
  refine ⟨.bool (if neg then !decide (a=b) else decide (a=b)),?_,by simp only [VR]⟩
  simp only [execOp,hop,Sem.run_bind,hg,Result.andThen_ok]
  have hb:(binOp op xt (ac.eval x) (ac.eval y)).run P w = .ok (.bool (if neg then !decide (a=b) else decide (a=b))) w:=by
   have hb':binOp op xt (ac.eval x) (ac.eval y)=if neg then (do pure (.bool (!(<- Op.equal xt (ac.eval x) (ac.eval y))))) else (do pure (.bool (<- Op.equal xt (ac.eval x) (ac.eval y)))):=by
    subst hneg
    generalize ac.eval x=cx at vx
    generalize ac.eval y=cy at vy
    cases hq:ay x' e<;>rw [hq]at h1 vx<;>simp only [nc,Option.some.injEq,reduceCtorEq]at h1<;>simp only [VR]at vx<;>
     first
     | (subst vx;cases neg<;>cases cy<;>rfl)
     | (obtain ⟨c1,vx,_⟩:=vx;subst vx;cases neg<;>cases cy<;>rfl)
     | (obtain ⟨c1,c2,c3,c4,vx,_⟩:=vx;subst vx;cases neg<;>cases cy<;>rfl)
   rw [hb']
   cases neg<;>simp [hr]
  rw [hb]
  rfl
 unfold nh at h
 split at h
 .exact key false (by simp) h
 .exact key true (by simp) h
 .exact (au h).elim
end
end Go.Ev
end
section
namespace Go.Ev
open Go.RowKit
section
variable {P:Program} {nt:Nat} {o:Oper} {id:Nat} {ph:cW} {e:Env} {H:Heap} {k:K}
theorem Zf {op} {xt} {x} (hop:o.op = .unOp op xt x) (h:aM (af P nt o) id ph e H k=1):Good P nt o e H k:=by
 simp only [af,hop]at h
 have mem:x ∈ o.op.operands:=by simp [hop,Op.operands]
 have hnd:∀ c,o.op ≠ .defer c:=by simp_all
 split at h
 .rename_i x' hx
  have h':Nn x' id ph e H k=1:=h
  unfold Nn at h'
  rw [aq]at h'
  obtain ⟨b,hb,h1⟩:=mq h'
  have h2:k (.bool (!b)) H=1:=by
   rcases bO h1 with ⟨h2,h3⟩|⟨h2,h3⟩<;>subst h2<;>exact h3
  refine ⟨_,_,eR.bD hnd λm w ac ho=>?_,h2⟩
  have v:=ho x mem x' hx
  rw [hb]at v
  simp only [VR]at v
  exact ⟨.bool (!b),by simp [execOp,hop,v,Op.unary],by rfl⟩
 .rename_i x' hx
  split at h
  .rename_i kx hk
   have h':Ke (lF kx) (lF kx) (.sub (2 ^ kx.bits)) (.c (.int (lF kx) 0)) x' id ph e H k=1:=h
   obtain ⟨a,b,ha,hb,h1⟩:=AQ h'
   simp only [ay,V.int.injEq,true_and]at ha
   subst ha
   obtain ⟨r,h2,h3⟩:=Mh (P:=P) (t:=xt) (op:=.sub) rfl (YG ⟨rfl,rfl⟩) h1
   refine ⟨_,_,eR.bD hnd λm w ac ho=>?_,h2⟩
   have v:=ho x mem x' hx
   rw [hb]at v
   simp only [VR,dH]at v
   obtain ⟨h4,h5⟩:=h3 (wN kx) v.2.1
   have h6:=h5 w
   rw [toI_small kx 0 (by cases kx<;>decide)]at h6
   simp only [binOp,ne_eq,not_true_eq_false,if_false]at h6
   exact ⟨.int kx (toI kx r),by simp only [execOp,hop,v.1,Op.unary,Sem.run_bind];simp_all,by simp only [VR,dH];simp_all⟩
  .exact (au h).elim
 .rename_i x' hx
  split at h
  .rename_i kx hk
   have h':Ke (lF kx) (lF kx) .W3 (.c (.int (lF kx) (2 ^ kx.bits-1))) x' id ph e H k=1:=h
   obtain ⟨a,b,ha,hb,h1⟩:=AQ h'
   simp only [ay,V.int.injEq,true_and]at ha
   subst ha
   obtain ⟨r,h2,h3⟩:=Mh (P:=P) (t:=xt) (op:=.xor) rfl (YG ⟨rfl,rfl⟩) h1
   refine ⟨_,_,eR.bD hnd λm w ac ho=>?_,h2⟩
   have v:=ho x mem x' hx
   rw [hb]at v
   simp only [VR,dH]at v
   obtain ⟨h4,h5⟩:=h3 (by cases kx<;>decide) v.2.1
   have h6:=h5 w
   have h7:toI kx (2 ^ kx.bits-1)=if kx.signed then -1 else kx.max:=by cases kx<;>decide
   simp only [binOp,ne_eq,not_true_eq_false,if_false]at h6
   exact ⟨.int kx (toI kx r),by simp only [execOp,hop,v.1,Op.unary,Sem.run_bind];simp_all,by simp only [VR,dH];simp_all⟩
  .exact (au h).elim
 .exact (au h).elim
theorem uH {t} {x} (hop:o.op = .makeInterface t x) (h:aM (af P nt o) id ph e H k=1):Good P nt o e H k:=by
 simp only [af,hop]at h
 have mem:x ∈ o.op.operands:=by simp [hop,Op.operands]
 have hnd:∀ c,o.op ≠ .defer c:=by simp_all
 split at h
 .exact (au h).elim
 .rename_i x' d hni hx hu
  have h':Xn t x' id ph e H k=1:=h
  unfold Xn at h'
  rw [aq]at h'
  refine ⟨_,_,eR.bD hnd λm w ac ho=>?_,h'⟩
  have v:=ho x mem x' hx
  refine ⟨.iface t (ac.eval x),?_,by simp only [VR];simp_all⟩
  simp only [execOp,hop,Instr.makeInterface,Sem.run_bind,run_underlying hu,Result.andThen_ok]
  rfl
 .exact (au h).elim
theorem BL {x} {xt t} {ok} (hop:o.op = .typeAssert x xt t ok) (h:aM (af P nt o) id ph e H k=1):Good P nt o e H k:=by
 simp only [af,hop]at h
 have mem:x ∈ o.op.operands:=by simp [hop,Op.operands]
 have hnd:∀ c,o.op ≠ .defer c:=by simp_all
 split at h
 .exact (au h).elim
 .rename_i x' d hni hx hu
  have h':Xt t x' id ph e H k=1:=h
  unfold Xt at h'
  rw [aq]at h'
  obtain ⟨u,hv,h2⟩:=Zt h'
  refine ⟨_,_,eR.bD hnd λm w ac ho=>?_,h2⟩
  have v:=ho x mem x' hx
  rw [hv]at v
  obtain ⟨cu,hc,hcu⟩:=v
  refine ⟨.tuple #[cu,.bool true],?_,by exact ⟨_,rfl,by exact ⟨_,_,rfl,hcu,_,_,rfl,by rfl,rfl⟩⟩⟩
  simp only [execOp,hop,hc,Instr.typeAssert,Sem.run_bind,run_underlying hu,Result.andThen_ok]
  rfl
 .exact (au h).elim
theorem iR {m} {ac:Act}:∀ {l} {r},bP nt l=some r->(∀ x ∈ l,∀ ar,aJ nt x=some ar->VR m (ay ar e) (ac.eval x))->bS m (r.map (ay · e)) (l.map ac.eval)
 | [],r,h,_=>by simp only [bP,Option.some.injEq]at h;subst h;rfl
 | x :: l,r,h,ho=>by
  simp only [bP]at h
  split at h
  .rename_i a r' h1 h2
   cases h
   exact ⟨_,_,rfl,ho x (YJ ..) a h1,iR h2 λy hy=>ho y (YI _ hy)⟩
  simp_all
theorem Ic {f} {first caps} (hop:o.op = .makeFunc (.func f) first caps) (h:aM (af P nt o) id ph e H k=1):Good P nt o e H k:=by
 simp only [af,hop]at h
 have hnd:∀ c,o.op ≠ .defer c:=by simp_all
 split at h
 .rename_i l hf hl
  have h':Nr (2*f) l id ph e H k=1:=h
  unfold Nr at h'
  rw [gI]at h'
  refine ⟨_,_,eR.bD hnd λm w ac ho=>?_,h'⟩
  have hf':first = #[]:=by simp_all
  subst hf'
  refine ⟨.func (.func f) #[] (caps.map ac.eval),by simp [execOp,hop,Instr.makeFunc],?_⟩
  simp only [VR]
  have:=iR hl λx hx=>ho x (by simp [hop,Op.operands];simp_all)
  simp_all
 .rename_i q qs hf hc
  split at h
  .rename_i l hl
   have h':Nr (2*f+1) l id ph e H k=1:=h
   unfold Nr at h'
   rw [gI]at h'
   refine ⟨_,_,eR.bD hnd λm w ac ho=>?_,h'⟩
   have hcl:caps.toList=[]:=by
    cases hct:caps.toList with
    | nil=>rfl
    | cons y ys=>
     rw [hct]at hc
     simp only [bP]at hc
     grind
   have hc':caps = #[]:=by simp_all
   subst hc'
   refine ⟨.func (.func f) (first.map ac.eval) #[],by simp [execOp,hop,Instr.makeFunc],?_⟩
   refine ⟨first.map ac.eval,by simp [Nat.mul_add_div],?_⟩
   have:=iR hl λx hx=>ho x (by simp [hop,Op.operands];grind)
   simp_all
  .exact (au h).elim
 .exact (au h).elim
theorem Le {x} {i} (hop:o.op = .extract x i) (h:aM (af P nt o) id ph e H k=1):Good P nt o e H k:=by
 simp only [af,hop]at h
 have mem:x ∈ o.op.operands:=by simp [hop,Op.operands]
 have hnd:∀ c,o.op ≠ .defer c:=by simp_all
 split at h
 .rename_i x' hx
  have h':Nf x' i id ph e H k=1:=h
  unfold Nf at h'
  rw [aq]at h'
  obtain ⟨l,hl,h1⟩:=Uv h'
  obtain ⟨v,hv,h2⟩:=tC h1
  refine ⟨_,_,eR.bD hnd λm w ac ho=>?_,h2⟩
  have vx:=ho x mem x' hx
  rw [hl]at vx
  obtain ⟨cs,hcs,hr⟩:=vx
  obtain ⟨c,hc,hvr⟩:=hr.get hv
  refine ⟨c,?_,hvr⟩
  have hc':cs[i]? = some c:=by simp_all
  simp [execOp,hop,hcs,Instr.extract,hc']
 .exact (au h).elim
theorem ED {t} {x} {f} (hop:o.op = .fieldAddr t x f) (h:aM (af P nt o) id ph e H k=1):Good P nt o e H k:=by
 simp only [af,hop]at h
 have mem:x ∈ o.op.operands:=by simp [hop,Op.operands]
 have hnd:∀ c,o.op ≠ .defer c:=by simp_all
 split at h
 .rename_i x' fs hx hu
  split at h
  .rename_i fd hfd
   split at h
   .rename_i n hsz
    have h':Ng fd.offset x' id ph e H k=1:=h
    unfold Ng at h'
    rw [aq]at h'
    obtain ⟨b,off,hb,h1⟩:=fE h'
    rw [aw]at h1
    refine ⟨_,_,eR.bD hnd λm w ac ho=>?_,h1⟩
    have vx:=ho x mem x' hx
    rw [hb]at vx
    obtain ⟨c,hc,hm⟩:=vx
    refine ⟨.pointer (some ⟨c,off+fd.offset,none⟩),?_,by simp only [VR];simp_all⟩
    simp only [qe,YZ]at hsz
    obtain ⟨ti,hti,hsz⟩:=hsz
    have hs:(sizeOf fd.type).run P w = .ok (n+1) w:=by
     simp [sizeOf,typeInfo,hti,hsz]
    simp [execOp,hop,hc,Instr.fieldAt,run_underlying hu,hfd,Instr.sureAddr,fieldPlace,hs,Addr.add_lit]
   .exact (au h).elim
  .exact (au h).elim
 .exact (au h).elim
theorem fN {t} {cs} {off} {l} {m} (hr:bS m l cs.toList) {w}:
 (∀ n,lB P t=some true->qe P t=some n->off+n<=l.length->∃ q:Array Value,(part t cs off).run P w = .ok (.agg q) w/\bS m ((l.drop off).take n) q.toList)/\
 (∀ v,lB P t=some false->l[off]? = some v->∃ c,(part t cs off).run P w = .ok c w/\VR m v c):=by
 have hlen:=hr.length
 constructor
 .intro n ha hs hle
  have hag:(isAgg t).run P w = .ok true w:=by
   unfold lB at ha
   split at ha<;>simp at ha
   all_goals (rename_i hu;simp [isAgg,run_underlying hu])
  simp only [qe,YZ]at hs
  obtain ⟨ti,hti,hsz⟩:=hs
  have hsz':(sizeOf t).run P w = .ok n w:=by simp [sizeOf,typeInfo,hti,hsz]
  refine ⟨cs.extract off (off+n),by simp [part,hag,hsz'],?_⟩
  refine bS.oZ ?_ λi v c h1 h2=>?_
  .simp_all
  .rw [Yk]at h1
   split at h1
   .rw [Yx]at h1
    obtain ⟨c',h3,h4⟩:=hr.get h1
    simp_all
   simp_all
 .intro v ha hv
  have hag:(isAgg t).run P w = .ok false w:=by
   unfold lB at ha
   split at ha<;>simp at ha
   rename_i d h1 h2 hu
   simp only [isAgg,Sem.run_bind,run_underlying hu,Result.andThen_ok]
   rfl
  obtain ⟨c,h3,h4⟩:=hr.get hv
  rw [Yo]at h3
  exact ⟨c,by simp [part,hag,h3],h4⟩
theorem Uh {t} {x} {f} (hop:o.op = .field t x f) (h:aM (af P nt o) id ph e H k=1):Good P nt o e H k:=by
 simp only [af,hop]at h
 have mem:x ∈ o.op.operands:=by simp [hop,Op.operands]
 have hnd:∀ c,o.op ≠ .defer c:=by simp_all
 split at h
 .rename_i x' fs hx hu
  split at h
  .rename_i fd hfd
   split at h
   .rename_i n hag hsz
    have h':Ni fd.offset n x' id ph e H k=1:=h
    unfold Ni at h'
    rw [aq]at h'
    obtain ⟨l,hl,h1⟩:=pV h'
    obtain ⟨h2,h3⟩:=lU h1
    obtain ⟨h4,h5⟩:=kE h3
    refine ⟨_,_,eR.bD hnd λm w ac ho=>?_,h5⟩
    have vx:=ho x mem x' hx
    rw [hl]at vx
    obtain ⟨cs,hc,hr⟩:=vx
    obtain ⟨q,hq,hqr⟩:=(fN (off:=fd.offset) hr (w:=w)).1 n hag hsz (by grind)
    exact ⟨.agg q,by simp [execOp,hop,hc,Instr.field,run_underlying hu,hfd,asAgg,hq],by simp only [VR];simp_all⟩
   .rename_i n hag hsz
    have h':Nh fd.offset x' id ph e H k=1:=h
    unfold Nh at h'
    rw [aq]at h'
    obtain ⟨l,hl,h1⟩:=pV h'
    obtain ⟨v,h2,h3⟩:=tC h1
    refine ⟨_,_,eR.bD hnd λm w ac ho=>?_,h3⟩
    have vx:=ho x mem x' hx
    rw [hl]at vx
    obtain ⟨cs,hc,hr⟩:=vx
    obtain ⟨q,hq,hqr⟩:=(fN hr (w:=w)).2 v hag h2
    exact ⟨q,by simp [execOp,hop,hc,Instr.field,run_underlying hu,hfd,asAgg,hq],hqr⟩
   .exact (au h).elim
  .exact (au h).elim
 .exact (au h).elim
theorem Ba {i'} {len} {c} (h:idx id i' e len c=1):∃ n,c n=1/\n<len/\∀ (m) (cv),VR m (ay i' e) cv->∃ kd,cv = .int kd n:=by
 unfold idx at h
 rw [aq]at h
 obtain ⟨kd,n,hn,h1⟩:=dE h
 obtain ⟨h2,h3⟩:=aK h1
 obtain ⟨h4,h5⟩:=aK h3
 obtain ⟨h6,h7⟩:=aK h5
 refine ⟨n,h7,er h4,λm cv hv=>?_⟩
 rw [hn]at hv
 exact ⟨oG kd,by rw [hv.1,toI_64 (bU h2) hv.2.2 (er h6) hv.2.1]⟩
theorem cG {t} {n} (h:qe P t=some n) (w):(sizeOf t).run P w = .ok n w:=by
 simp only [qe,YZ]at h
 obtain ⟨ti,hti,hsz⟩:=h
 simp [sizeOf,typeInfo,hti,hsz]
theorem EE {t:TypeId} {x i:Operand} (hop:o.op = .indexAddr t x i) (h:aM (af P nt o) id ph e H k=1):Good P nt o e H k:=by
 simp only [af,hop]at h
 have mem:x ∈ o.op.operands/\i ∈ o.op.operands:=by simp [hop,Op.operands]
 have hnd:∀ c,o.op ≠ .defer c:=by simp [hop]
 split at h
 .rename_i x' i' len el hx hi hu
  split at h
  .rename_i s hs
   have h':Xj len s x' i' id ph e H k=1:=h
   unfold Xj at h'
   rw [aq]at h'
   obtain ⟨b,off,hb,h1⟩:=fE h'
   obtain ⟨n,h2,h3,h4⟩:=Ba h1
   rw [aw]at h2
   refine ⟨_,_,eR.bD hnd λm w ac ho=>?_,h2⟩
   have vx:=ho x mem.1 x' hx
   obtain ⟨kd,hki⟩:=h4 m _ (ho i mem.2 i' hi)
   rw [hb]at vx
   simp only [VR]at vx
   obtain ⟨c,hc,hm⟩:=vx
   refine ⟨.pointer (some ⟨c,off+n*s,none⟩),?_,by simp only [VR];grind⟩
   have hlt:(0:Int)<=(n:Int)/\(n:Int)<(len:Int):=by omega
   simp [execOp,hop,hc,hki,Instr.indexAt,asIntOf,run_underlying hu,Instr.sureAddr,cG hs,h3,Addr.add_lit]
  .exact (au h).elim
 .rename_i x' i' el hx hi hu
  split at h
  .rename_i s hs
   have h':Xm s x' i' id ph e H k=1:=h
   unfold Xm at h'
   rw [aq]at h'
   obtain ⟨b,off,len,cp,sz,hb,h1⟩:=LH h'
   obtain ⟨n,h2,h3,h4⟩:=Ba h1
   rw [aw]at h2
   refine ⟨_,_,eR.bD hnd λm w ac ho=>?_,h2⟩
   have vx:=ho x mem.1 x' hx
   obtain ⟨kd,hki⟩:=h4 m _ (ho i mem.2 i' hi)
   rw [hb]at vx
   obtain ⟨c,cap,o',sp,hc,hm,hle,hcp,ho'⟩:=vx
   obtain ⟨rfl,rfl⟩:o'=off/\sp=none:=by
    grind
   refine ⟨.pointer (some ⟨c,o'+n*s,none⟩),?_,by simp only [VR];grind⟩
   simp [execOp,hop,hc,hki,Instr.indexAt,asIntOf,run_underlying hu,cG hs,h3,Addr.add_lit]
  .exact (au h).elim
 .exact (au h).elim
theorem Ui {t:TypeId} {x i:Operand} (hop:o.op = .index t x i) (h:aM (af P nt o) id ph e H k=1):Good P nt o e H k:=by
 simp only [af,hop]at h
 have mem:x ∈ o.op.operands/\i ∈ o.op.operands:=by simp [hop,Op.operands]
 have hnd:∀ c,o.op ≠ .defer c:=by simp [hop]
 split at h
 .rename_i x' i' hx hi hu
  have h':Xl x' i' id ph e H k=1:=h
  unfold Xl at h'
  rw [aq]at h'
  obtain ⟨len,mm,hb,h1⟩:=ej h'
  obtain ⟨n,h2,h3,h4⟩:=Ba h1
  rw [aw]at h2
  refine ⟨_,_,eR.bD hnd λm w ac ho=>?_,h2⟩
  have vx:=ho x mem.1 x' hx
  obtain ⟨kd,hki⟩:=h4 m _ (ho i mem.2 i' hi)
  rw [hb]at vx
  simp only [VR]at vx
  have hg:=qU len mm n h3
  have e1:Qu (Yz mm (Yh 8 n)) 255=(UInt8.ofNat (mm/256 ^ n%256)).toNat:=by
   show (mm >>> (8*n)) &&& 255=_
   rw [WA,QE,show (255:Nat)=2 ^ 8-1 by rfl,QC,toNat_byte]
  rw [e1]
  refine ⟨.int .u8 (UInt8.ofNat (mm/256 ^ n%256)).toNat,?_,uL m _⟩
  have hlen:(aA len mm).length=len:=aL len mm
  have hbg:(⟨(aA len mm).toArray⟩:ByteArray)[n]? = some (UInt8.ofNat (mm/256 ^ n%256)):=by
   have hlt:n<(⟨(aA len mm).toArray⟩:ByteArray).size:=by simp [ByteArray.size,hlen,h3]
   rw [getElem?_pos (⟨(aA len mm).toArray⟩:ByteArray) n hlt]
   congr 1
   have:(aA len mm)[n]'(by omega)=UInt8.ofNat (mm/256 ^ n%256):=by
    grind
   rw [<- this]
   rfl
  simp [execOp,hop,vx.1,hki,Instr.index,asIntOf,run_underlying hu,hbg]
 .rename_i x' i' len el hx hi hu
  split at h
  .rename_i s ag hs hag
   have h':Xk len s ag x' i' id ph e H k=1:=h
   unfold Xk at h'
   rw [aq]at h'
   obtain ⟨l,hb,h1⟩:=pV h'
   obtain ⟨n,h2,h3,h4⟩:=Ba h1
   rcases bO h2 with ⟨h5,h6⟩|⟨h5,h6⟩
   .subst h5
    obtain ⟨h7,h8⟩:=lU h6
    obtain ⟨h9,h10⟩:=kE h8
    refine ⟨_,_,eR.bD hnd λm w ac ho=>?_,h10⟩
    have vx:=ho x mem.1 x' hx
    obtain ⟨kd,hki⟩:=h4 m _ (ho i mem.2 i' hi)
    rw [hb]at vx
    simp only [VR]at vx
    obtain ⟨cs,hc,hr⟩:=vx
    have h7':n*s<=l.length:=h7
    obtain ⟨q,hq,hqr⟩:=(fN (P:=P) (t:=el) (off:=n*s) hr (w:=w)).1 s hag hs (by
     grind)
    exact ⟨.agg q,by simp [execOp,hop,hc,hki,Instr.index,asIntOf,run_underlying hu,cG hs,h3,hq],by simp only [VR];grind⟩
   .subst h5
    obtain ⟨v,h7,h8⟩:=tC h6
    refine ⟨_,_,eR.bD hnd λm w ac ho=>?_,h8⟩
    have vx:=ho x mem.1 x' hx
    obtain ⟨kd,hki⟩:=h4 m _ (ho i mem.2 i' hi)
    rw [hb]at vx
    obtain ⟨cs,hc,hr⟩:=vx
    obtain ⟨q,hq,hqr⟩:=(fN (P:=P) (t:=el) (off:=n*s) hr (w:=w)).2 v hag h7
    exact ⟨q,by simp [execOp,hop,hc,hki,Instr.index,asIntOf,run_underlying hu,cG hs,h3,hq],hqr⟩
  .exact (au h).elim
 .exact (au h).elim
end
end Go.Ev
end
section
namespace Go.Ev
open Go.RowKit
section
variable {P:Program} {nt:Nat} {o:Oper} {id:Nat} {ph:cW} {e:Env} {H:Heap} {k:K}
def Z3 (P:Program) (c:Nat) (a b:V) (r:Bool):Prop:=∀ (m:M) (cx cy:Value),VR m a cx->VR m b cy->∀ (dd:Nat) (t:TypeId) (w:World),(c=0->P.underlying t=some .bool)->(c=1->∃ q,P.underlying t=some (.int q))->(2<=c->P.underlying t=some .string)->(Op.equalIn (dd+1) t cx cy).run P w = .ok r w
theorem KF {c} {x y} {k} (h:GU id c x y k=1):∃ r,k r=1/\Z3 P c x y r:=by
 match c,h with
 | 0,h=>
  have h':eJ id x (λa=>eJ id y λb=>aD a (k b) (aD b (k false) (k true)))=1:=h
  obtain ⟨a,rfl,h1⟩:=mq h'
  obtain ⟨b,rfl,h2⟩:=mq h1
  refine ⟨a == b,by cases a<;>cases b<;>exact h2,λm cx cy vx vy dd t w h0 _ _=>?_⟩
  subst vx vy
  exact run_equalIn_bool' w dd t a b (h0 rfl)
 | 1,h=>
  have h':cw id x (λk1 a=>cw id y λk2 b=>aD (YK k1 k2) (k (YK a b)) (no _))=1:=h
  obtain ⟨k1,a,rfl,h1⟩:=dE h'
  obtain ⟨k2,b,rfl,h2⟩:=dE h1
  obtain ⟨h3,h4⟩:=aK h2
  have:=bT h3
  subst this
  refine ⟨_,h4,λm cx cy vx vy dd t w _ h1 _=>?_⟩
  obtain ⟨q,hq⟩:=h1 rfl
  rw [vx.1,vy.1,run_equalIn_int w dd t _ q _ _ hq,eY]
  by_cases hab:a=b
  .simp_all
  .have:=λe=>hab (toI_inj _ vx.2.1 vy.2.1 e)
   simp_all
 | c+2,h=>
  have h':dZ id x (λl1 a=>dZ id y λl2 b=>aD (YK l1 l2) (k (YK a b)) (k false))=1:=h
  obtain ⟨l1,a,rfl,h1⟩:=ej h'
  obtain ⟨l2,b,rfl,h2⟩:=ej h1
  have hf:k (decide (l1=l2) && decide (a=b))=1:=by
   rcases bO h2 with ⟨h3,h4⟩|⟨h3,h4⟩
   .rw [eY]at h3 h4
    simp_all
   .rw [eY]at h3
    simp_all
  refine ⟨_,hf,λm cx cy vx vy dd t w _ _ h2=>?_⟩
  rw [vx.1,vy.1,run_equalIn_string w dd t _ _ (h2 (by omega))]
  congr 1
  rw [ByteArray.toList_eq,ByteArray.toList_eq]
  by_cases hl:l1=l2
  .subst hl
   by_cases hab:a=b
   .simp_all
   .simp only [hab,decide_false,Bool.and_false,beq_eq_false_iff_ne,ne_eq]
    intro e
    exact hab (qV vx.2 vy.2 (by omega))
  .simp only [hl,decide_false,Qf,beq_eq_false_iff_ne,ne_eq]
   intro e
   have:=congrArg Wm e
   simp [aL]at this
   omega
def JU (P:Program):List Nat->List V->List V->Bool->Prop
 | [],_,_,b=>b=true
 | c :: cls,l,m,b=>∃ a l' a' m' r,l=a :: l'/\m=a' :: m'/\Z3 P c a a' r/\(r=true->JU P cls l' m' b)/\(r=false->b=false)
theorem Jj:∀ {cls} {l m} {k},jU id cls l m k=1->∃ b,k b=1/\JU P cls l m b
 | [],l,m,k,h=>⟨true,h,rfl⟩
 | c :: cls,[],m,k,h=>(au h).elim
 | c :: cls,a :: l,[],k,h=>(au h).elim
 | c :: cls,a :: l,a' :: m,k,h=>by
  have h':=h
  obtain ⟨r,h1,h2⟩:=KF h'
  cases r with
  | true=>
   obtain ⟨b,h3,h4⟩:=Jj (show jU id cls l m k=1 from h1)
   exact ⟨b,h3,a,l,a',m,true,rfl,rfl,h2,λ_=>h4,λh=>(by cases h)⟩
  | false=>exact ⟨false,h1,a,l,a',m,false,rfl,rfl,h2,λh=>(by cases h),λ_=>rfl⟩
theorem JU.split:∀ {c r:List Nat} {l m:List V} {b:Bool},JU P (c ++ r) l m b->∃ b1,JU P c (l.take c.length) (m.take c.length) b1/\(b1=true->JU P r (l.drop c.length) (m.drop c.length) b)/\(b1=false->b=false)
 | [],r,l,m,b,h=>⟨true,rfl,λ_=>by simpa using h,λh=>(by cases h)⟩
 | c :: cs,r,l,m,b,h=>by
  obtain ⟨a,l',a',m',q,rfl,rfl,h1,h2,h3⟩:=h
  cases q with
  | true=>
   obtain ⟨b1,h4,h5,h6⟩:=JU.split (h2 rfl)
   exact ⟨b1,⟨a,_,a',_,true,rfl,rfl,h1,λ_=>h4,λh=>(by cases h)⟩,λe=>by simpa using h5 e,h6⟩
  | false=>exact ⟨false,⟨a,_,a',_,false,rfl,rfl,h1,λh=>(by cases h),λ_=>rfl⟩,λh=>(by cases h),λ_=>h3 rfl⟩
theorem sX {t} {d} {c} (h:uE P (d+1) t=some c):(lB P t=some false/\∃ q,c=[q]/\(q=0->P.underlying t=some .bool)/\(q=1->∃ kd,P.underlying t=some (.int kd))/\(2<=q->P.underlying t=some .string))\/
 (lB P t=some true/\P.underlying t=some (.struct (P.fieldsOf t))/\P.stoodInHeld t=false/\tU P (uE P d) (P.fieldsOf t).toList 0=some c):=by
 simp only [uE]at h
 split at h
 .rename_i hu;cases h;exact YG ⟨by simp [lB,hu],0,rfl,λ_=>hu,λh=>(by omega),λh=>(by omega)⟩
 .rename_i q hu;cases h;exact YG ⟨by simp [lB,hu],1,rfl,λh=>(by omega),λ_=>⟨q,hu⟩,λh=>(by omega)⟩
 .rename_i hu;cases h;exact YG ⟨by simp [lB,hu],2,rfl,λh=>(by omega),λh=>(by omega),λ_=>hu⟩
 .rename_i fs hu
  split at h
  .cases h
  .have hf:P.fieldsOf t=fs:=by simp [Program.fieldsOf,hu]
   exact YD ⟨by simp [lB,hu],by simp_all,by simp_all,by simp_all⟩
 simp_all
theorem td {m:M} {w:World}:∀ (d:Nat) (t:TypeId) (c:List Nat),uE P d t=some c->∀ (dd:Nat),d<=dd->∀ (cx cy:Value) (l l':List V) (b:Bool),JU P c l l' b->l.length=c.length->l'.length=c.length->
 ((lB P t=some false->∃ v v':V,l=[v]/\l'=[v']/\VR m v cx/\VR m v' cy)/\(lB P t=some true->∃ xs ys,cx = .agg xs/\cy = .agg ys/\bS m l xs.toList/\bS m l' ys.toList))->(Op.equalIn dd t cx cy).run P w = .ok b w
 | 0,t,c,h,_,_,_,_,_,_,_,_,_,_,_=>by simp [uE]at h
 | d+1,t,c,h,0,hdd,_,_,_,_,_,_,_,_,_=>by omega
 | d+1,t,c,h,dd+1,hdd,cx,cy,l,l',b,heq,hl1,hl2,hv=>by
  rcases sX h with ⟨ha,q,rfl,h0,h1,h2⟩|⟨ha,hu,hs,hf⟩
  .obtain ⟨v,v',rfl,rfl,v1,v2⟩:=hv.1 ha
   obtain ⟨a,r1,a',r2,r,e1,e2,hl,g1,g2⟩:=heq
   cases e1;cases e2
   have hr:=hl m cx cy v1 v2 dd t w h0 h1 h2
   cases r with
   | true=>
    have:b=true:=g1 rfl
    grind
   | false=>grind
  .obtain ⟨xs,ys,rfl,rfl,v1,v2⟩:=hv.2 ha
   rw [run_equalIn_struct w dd t xs ys hu hs]
   clear h ha hu hs hv
   generalize (P.fieldsOf t).toList=fs at hf
   have key:∀ (fs:List Field) (off:Nat) (c:List Nat) (b:Bool),tU P (uE P d) fs off=some c->JU P c (l.drop off) (l'.drop off) b->l.length=off+c.length->l'.length=off+c.length->(Op.eqFields dd xs ys fs).run P w = .ok b w:=by
    intro fs
    induction fs with
    | nil=>
     intro off c b hc he _ _
     simp only [tU,Option.some.injEq]at hc
     subst hc
     have:b=true:=he
     subst this
     simp [Op.eqFields]
    | cons f fs ih=>
     intro off c b hc he hle hle'
     simp only [tU]at hc
     split at hc
     .cases hc
     .rename_i hn
      split at hc
      .rename_i cf s r h1 h2 h3
       split at hc
       .rename_i h4
        cases hc
        rw [Bool.and_eq_true]at h4
        have hoff:f.offset=off:=by grind
        have hsz:s=cf.length:=by grind
        rw [h2]at h3
        simp only [WH]at h3
        obtain ⟨b1,g1,g2,g3⟩:=JU.split he
        have hn':f.name ≠ "_":=by grind
        have hd:∃ d',d=d'+1:=by
         cases d with
         | zero=>simp [uE]at h1
         | succ d'=>grind
        obtain ⟨d',rfl⟩:=hd
        have hpart:∃ p p',(part f.type xs f.offset).run P w = .ok p w/\(part f.type ys f.offset).run P w = .ok p' w/\(Op.equalIn dd f.type p p').run P w = .ok b1 w:=by
         rw [hoff]
         rcases sX h1 with ⟨ha,q,rfl,_⟩|⟨ha,_⟩
         .have g1':=g1
          obtain ⟨a,r1,a',r2,rr,e1,e2,_⟩:=g1'
          have e1':l[off]? = some a:=by
           have:=congrArg (λz=>z[0]?) e1
           grind
          have e2':l'[off]? = some a':=by
           have:=congrArg (λz=>z[0]?) e2
           grind
          obtain ⟨p,q1,q2⟩:=(fN (P:=P) (t:=f.type) (off:=off) v1 (w:=w)).2 a ha e1'
          obtain ⟨p',q3,q4⟩:=(fN (P:=P) (t:=f.type) (off:=off) v2 (w:=w)).2 a' ha e2'
          have hone:∀ (z:List V) (x:V) (r:List V),(z.drop off).take 1=x :: r->(z.drop off).take 1=[x]:=λz x r e=>by
           have hl:=congrArg Wm e
           grind
          exact ⟨p,p',q1,q3,td (d'+1) f.type _ h1 dd (by omega) p p' _ _ b1 g1 ((congrArg Wm (hone _ _ _ e1)).trans rfl) ((congrArg Wm (hone _ _ _ e2)).trans rfl) ⟨λ_=>⟨a,a',hone _ _ _ e1,hone _ _ _ e2,q2,q4⟩,λh=>(by grind)⟩⟩
         .rw [YC]at hle hle'
          obtain ⟨p,q1,q2⟩:=(fN (P:=P) (t:=f.type) (off:=off) v1 (w:=w)).1 s ha h2 (by omega)
          obtain ⟨p',q3,q4⟩:=(fN (P:=P) (t:=f.type) (off:=off) v2 (w:=w)).1 s ha h2 (by omega)
          rw [hsz]at q2 q4
          exact ⟨_,_,q1,q3,td (d'+1) f.type _ h1 dd (by omega) _ _ _ _ b1 g1 (by grind) (by grind) ⟨λh=>(by grind),λ_=>⟨_,_,rfl,rfl,q2,q4⟩⟩⟩
        obtain ⟨p,p',q1,q2,q3⟩:=hpart
        simp only [Op.eqFields,hn',ne_eq,not_false_eq_true,if_true,Sem.run_bind,q1,q2,q3,Result.andThen_ok]
        cases b1 with
        | true=>
         simp only [Bool.not_true,YN,if_false]
         rw [YC]at hle hle'
         refine ih _ r b h3 ?_ (by omega) (by omega)
         have:=g2 rfl
         rw [Qg,Qg]at this
         grind
        | false=>
         rw [g3 rfl]
         simp
       .cases hc
      .cases hc
   exact key fs 0 c b hf (by grind) (by omega) (by omega)
theorem wR:∀ l:List Nat,yT l=l.length
 | []=>rfl
 | a :: l=>by show WI (yT l)=_;rw [wR l];rfl
theorem vF {op} {xt yt} {x y} {x' y'} {c} (hop:o.op = .binOp op xt x y yt) (hx:aJ nt x=some x') (hy:aJ nt y=some y')
 (hrun:∀ (m) (w) (xs ys) (l l') (b),JU P c l l' b->l.length=c.length->l'.length=c.length->bS m l xs.toList->bS m l' ys.toList->(Op.equalIn 10000 xt (.agg xs) (.agg ys)).run P w = .ok b w)
 (h:aM (iQ P op xt c x' y') id ph e H k=1):Good P nt o e H k:=by
 have mem:x ∈ o.op.operands/\y ∈ o.op.operands:=by simp [hop,Op.operands]
 have hnd:∀ c,o.op ≠ .defer c:=by simp_all
 unfold iQ at h
 split at h
 .exact (au h).elim
 rename_i hg
 have hg':P.eqGuardType P.depth xt=false:=by simp_all
 have key:∀ neg,(op=if neg then .neq else .eql)->Gj c neg x' y' id ph e H k=1->Good P nt o e H k:=by
  intro neg hneg h'
  unfold Gj at h'
  rw [aq]at h'
  obtain ⟨l,hl,h1⟩:=pV h'
  rw [aq]at h1
  obtain ⟨l',hl',h2⟩:=pV h1
  obtain ⟨h3,h4⟩:=aK h2
  obtain ⟨h5,h6⟩:=aK h4
  have e1:=bT h3
  have e2:=bT h5
  rw [iJ,wR]at e1 e2
  obtain ⟨b,h7,h8⟩:=Jj h6
  have h9:k (.bool (if neg then !b else b)) H=1:=by
   rcases bO h7 with ⟨rfl,h10⟩|⟨rfl,h10⟩
   .rcases bO h10 with ⟨rfl,h11⟩|⟨rfl,h11⟩<;>exact h11
   simp_all
  refine ⟨_,_,eR.bD hnd λm w ac ho=>?_,h9⟩
  have vx:=ho x mem.1 x' hx
  have vy:=ho y mem.2 y' hy
  rw [hl]at vx
  rw [hl']at vy
  obtain ⟨xs,hcx,v1⟩:=vx
  obtain ⟨ys,hcy,v2⟩:=vy
  have hr:=hrun m w xs ys l l' b h8 e1 e2 v1 v2
  refine ⟨.bool (if neg then !b else b),?_,by rfl⟩
  have hgr:=run_eqGuard_agg w op xt x y xs ys hg'
  simp only [execOp,hop,hcx,hcy,Sem.run_bind,hgr,Result.andThen_ok]
  cases neg with
  | true=>
   have:=run_neq_struct (P:=P) w xt xs ys
   simp_all
  | false=>
   have:=run_eql_struct (P:=P) w xt xs ys
   simp_all
 split at h
 .exact key false (by simp) h
 .exact key true (by simp) h
 .exact (au h).elim
theorem FG {op} {xt yt} {x y} {x' y'} {fs} (hop:o.op = .binOp op xt x y yt) (hx:aJ nt x=some x') (hy:aJ nt y=some y') (hu:P.underlying xt=some (.struct fs))
 (h:aM (lR P op xt x' y') id ph e H k=1):Good P nt o e H k:=by
 unfold lR at h
 split at h
 rotate_left
 .exact (au h).elim
 rename_i c hc
 exact vF hop hx hy (λm w xs ys l l' b h8 e1 e2 v1 v2=>td 4 xt c hc 10000 (by omega) (.agg xs) (.agg ys) l l' b h8 e1 e2 ⟨λh=>by simp [lB,hu]at h,λ_=>⟨xs,ys,rfl,rfl,v1,v2⟩⟩) h
theorem Kk {xt el} {n q} (hu:P.underlying xt=some (.array n el)) (hc:uE P 1 el=some [q]) (hs:qe P el=some 1) (d) (m) (w) (xs ys) (l l') (b) (h:JU P (Yg n q) l l' b)
 (hv:bS m l xs.toList) (hv':bS m l' ys.toList):(Op.equalIn (d+2) xt (.agg xs) (.agg ys)).run P w = .ok b w:=by
 rcases sX hc with ⟨ha,q',he,h0,h1,h2⟩|⟨_,_,_,hf⟩
 .cases he
  obtain ⟨i,hi,hsz⟩:=YZ.1 hs
  have hcell:P.cellsOf el=1:=by simp [Program.cellsOf,hi,hsz]
  rw [run_equalIn_array w (d+1) xs ys hu hi,hcell,List.range_eq_range']
  have key:∀ (r j) (b),JU P (Yg r q) (l.drop j) (l'.drop j) b->(Op.eqItems (d+1) el 1 xs ys (List.range' j r)).run P w = .ok b w:=by
   intro r
   induction r with
   | zero=>
    intro j b hb
    have:=hb
    subst this
    rfl
   | succ r ih=>
    intro j b hb
    obtain ⟨a,l1,a',l1',rr,e1,e2,hl,g1,g2⟩:=hb
    have ea:=by
     have:=congrArg (λz=>z[0]?) e1
     simpa using this
    have ea':=by
     have:=congrArg (λz=>z[0]?) e2
     simpa using this
    have et:l.drop (j+1)=l1:=by
     have:=congrArg (List.drop 1) e1
     rw [Qg]at this
     simp_all
    have et':l'.drop (j+1)=l1':=by
     have:=congrArg (List.drop 1) e2
     rw [Qg]at this
     simp_all
    obtain ⟨p,q1,q2⟩:=(fN hv (w:=w)).2 a ha ea
    obtain ⟨p',q3,q4⟩:=(fN hv' (w:=w)).2 a' ha ea'
    have q5:=hl m p p' q2 q4 d el w h0 h1 h2
    rw [List.range'_succ]
    simp only [Op.eqItems,WO,Sem.run_bind,q1,q3,q5,Result.andThen_ok]
    cases rr with
    | true=>
     grind
    | false=>
     simp_all
  grind
 .revert hf
  generalize (P.fieldsOf el).toList=fs
  intro hf
  cases fs with
  | nil=>simp [tU]at hf
  | cons f fs=>
   simp only [tU]at hf
   split at hf
   .cases hf
   .simp [uE]at hf
theorem FL {op} {xt yt el} {n} {x y} {x' y'} (hop:o.op = .binOp op xt x y yt) (hx:aJ nt x=some x') (hy:aJ nt y=some y') (hu:P.underlying xt=some (.array n el))
 (h:aM (lS P op xt n el x' y') id ph e H k=1):Good P nt o e H k:=by
 unfold lS at h
 split at h
 .rename_i q hc hs
  exact vF hop hx hy (λm w xs ys l l' b h8 e1 e2 v1 v2=>Kk hu hc hs 9998 m w xs ys l l' b h8 v1 v2) h
 .exact (au h).elim
theorem Uf {op:BinOp} {xt yt:TypeId} {x y:Operand} (hop:o.op = .binOp op xt x y yt) (h:aM (af P nt o) id ph e H k=1):Good P nt o e H k:=by
 simp only [af,hop]at h
 have mem:x ∈ o.op.operands/\y ∈ o.op.operands:=by simp [hop,Op.operands]
 split at h
 rotate_left
 .exact (au h).elim
 rename_i x' y' hx hy
 have hnd:∀ c,o.op ≠ .defer c:=by simp [hop]
 have hex:∀ (ac:Act) (w:World),(execOp ac.eval o).run P w=((do eqGuard op xt x y (ac.eval x) (ac.eval y);binOp op xt (ac.eval x) (ac.eval y):Sem Value).run P w).andThen λv w'=>.ok (.value v) w':=by
  intro ac w
  simp only [execOp,hop,Sem.run_bind,Sem.run_pure]
 unfold pF at h
 split at h
 .rename_i kx hu
  split at h
  .rename_i f hf
   have h':Xi (lF kx) f x' y' id ph e H k=1:=h
   unfold Xi at h'
   rw [aq]at h'
   obtain ⟨k1,a,ha,h1⟩:=dE h'
   rw [aq]at h1
   obtain ⟨k2,b,hb,h2⟩:=dE h1
   obtain ⟨h3,h4⟩:=aK h2
   obtain ⟨h5,h6⟩:=aK h4
   have e3:=bT h3
   have e5:=bT h5
   subst e3 e5
   have h7:k (.bool (dW f a b)) H=1:=by
    rcases bO h6 with ⟨h8,h9⟩|⟨h8,h9⟩<;>rw [h8]<;>exact h9
   refine ⟨_,_,eR.bD hnd λm w ac ho=>?_,h7⟩
   have vx:=ho x mem.1 x' hx
   have vy:=ho y mem.2 y' hy
   rw [ha]at vx
   rw [hb]at vy
   simp only [VR,dH]at vx vy
   refine ⟨.bool (dW f a b),?_,by simp only [VR]⟩
   rw [hex,vx.1,vy.1,Sem.run_bind,nC]
   simp only [Result.andThen_ok,aa1 hf vx.2.1 vy.2.1]
  .split at h
   .rename_i f hf
    have key:∀ ky:IntKind,((rX op=false/\ky=kx)\/(rX op=true/\(ky.signed=true->ky.bits=64)))->Ke (lF kx) (lF ky) f x' y' id ph e H k=1->Good P nt o e H k:=by
     intro ky hky h'
     obtain ⟨a,b,ha,hb,h1⟩:=AQ h'
     obtain ⟨r,h2,h3⟩:=Mh (P:=P) (t:=xt) (op:=op) (k:=kx) (ky:=ky) hf hky h1
     refine ⟨_,_,eR.bD hnd λm w ac ho=>?_,h2⟩
     have vx:=ho x mem.1 x' hx
     have vy:=ho y mem.2 y' hy
     rw [ha]at vx
     rw [hb]at vy
     simp only [VR,dH]at vx vy
     obtain ⟨h4,h5⟩:=h3 vx.2.1 vy.2.1
     refine ⟨.int kx (toI kx r),?_,by simp only [VR,dH];exact ⟨trivial,h4,wO kx⟩⟩
     rw [hex,vx.1,vy.1,Sem.run_bind,nC]
     simp only [Result.andThen_ok,h5 w]
    split at h
    .rename_i hs
     split at h
     .rename_i ky hky
      split at h
      .rename_i hok
       exact key ky (YD ⟨hs,λhsg=>by simpa [acd,hsg] using hok⟩) h
      .exact (au h).elim
     .exact (au h).elim
    .rename_i hs
     exact key kx (YG ⟨by simpa using hs,rfl⟩) h
   .exact (au h).elim
 .have strs:∀ (m:M) (ac:Act),OR m nt e ac o->∀ l1 n1 l2 n2,ay x' e = .str l1 n1->ay y' e = .str l2 n2->
   ac.eval x = .string ⟨(aA l1 n1).toArray⟩/\n1<256 ^ l1/\ac.eval y = .string ⟨(aA l2 n2).toArray⟩/\n2<256 ^ l2:=by
   intro m ac ho l1 n1 l2 n2 e1 e2
   have vx:=ho x mem.1 x' hx
   have vy:=ho y mem.2 y' hy
   rw [e1]at vx
   rw [e2]at vy
   simp only [VR]at vx vy
   exact ⟨vx.1,vx.2,vy.1,vy.2⟩
  have cmp:∀ neg:Bool,(op=if neg then .neq else .eql)->Nt neg x' y' id ph e H k=1->Good P nt o e H k:=by
   intro neg hneg h'
   unfold Nt at h'
   rw [aq]at h'
   obtain ⟨l1,n1,h1,h2⟩:=ej h'
   rw [aq]at h2
   obtain ⟨l2,n2,h3,h4⟩:=ej h2
   have h5:k (.bool (if neg then !(decide (l1=l2) && YK n1 n2) else (decide (l1=l2) && YK n1 n2))) H=1:=by
    rcases bO h4 with ⟨h5,h6⟩|⟨h5,h6⟩
    .have:=bT h5
     subst this
     rcases bO h6 with ⟨h7,h8⟩|⟨h7,h8⟩<;>rw [h7]<;>cases neg<;>simp<;>exact h8
    .rw [eY]at h5
     rw [h5]
     cases neg<;>simp<;>exact h6
   refine ⟨_,_,eR.bD hnd λm w ac ho=>?_,h5⟩
   obtain ⟨v1,v2,v3,v4⟩:=strs m ac ho l1 n1 l2 n2 h1 h3
   refine ⟨.bool (if neg then !(decide (l1=l2) && YK n1 n2) else (decide (l1=l2) && YK n1 n2)),?_,by simp only [VR]⟩
   rw [hex,v1,v3,Sem.run_bind,nD]
   have hq:((⟨(aA l1 n1).toArray⟩:ByteArray).toList == (⟨(aA l2 n2).toArray⟩:ByteArray).toList)=(decide (l1=l2) && YK n1 n2):=by
    by_cases hl:l1=l2
    .subst hl
     rw [Zn v2 v4];simp
    .rw [decide_eq_false hl,Qf]
     simp only [beq_eq_false_iff_ne,ne_eq,ByteArray.toList_eq]
     intro he
     have:=congrArg Wm he
     simp [aL]at this
     exact hl this
   subst hneg
   cases neg
   .simp only [Result.andThen_ok,YN,if_false,binOp,Op.stringOp,hq,Sem.run_pure]
   .simp only [Result.andThen_ok,if_true,binOp,Op.stringOp,hq,Sem.run_pure]
  split at h
  .have h':C0 x' y' id ph e H k=1:=h
   unfold C0 at h'
   rw [aq]at h'
   obtain ⟨l1,n1,h1,h2⟩:=ej h'
   rw [aq]at h2
   obtain ⟨l2,n2,h3,h4⟩:=ej h2
   rw [aw]at h4
   obtain ⟨h5,h6⟩:=aK h4
   rw [aw]at h6
   refine ⟨_,_,eR.bD hnd λm w ac ho=>?_,h6⟩
   obtain ⟨v1,v2,v3,v4⟩:=strs m ac ho l1 n1 l2 n2 h1 h3
   have hlt:l1+l2<9223372036854775808:=er h5
   have e1:YW n1 (Yq n2 (Yh 8 l1))=n1+256 ^ l1*n2:=by
    show n1+n2 <<< (8*l1)=_
    rw [Qe,QE,Wl]
   have hbig:¬ ((((l1+l2:Nat):Int))>IntKind.i64.max):=by simp [IntKind.max,IntKind.signed,IntKind.bits];omega
   refine ⟨.string ⟨(aA (l1+l2) (n1+256 ^ l1*n2)).toArray⟩,?_,?_⟩
   .rw [hex,v1,v3,Sem.run_bind,nD]
    have hs1:(⟨(aA l1 n1).toArray⟩:ByteArray).size=l1:=by simp [ByteArray.size,aL]
    have hs2:(⟨(aA l2 n2).toArray⟩:ByteArray).size=l2:=by simp [ByteArray.size,aL]
    have happ:(⟨(aA l1 n1).toArray⟩:ByteArray) ++ (⟨(aA l2 n2).toArray⟩:ByteArray)=⟨(aA (l1+l2) (n1+256 ^ l1*n2)).toArray⟩:=by
     apply Go.WideShapes.bytes_inj
     rw [eU _ _ _ _ v2]
     simp [ByteArray.data_append]
    simp only [Result.andThen_ok,binOp,Op.stringOp,hs1,hs2,if_neg hbig,happ,Sem.run_pure]
   .rw [e1]
    simp only [VR]
    refine ⟨rfl,?_⟩
    show n1+256 ^ l1*n2<256 ^ (l1+l2)
    rw [YF1]
    calc n1+256 ^ l1*n2<256 ^ l1+256 ^ l1*n2:=by omega
     _=256 ^ l1*(n2+1):=by rw [Nat.mul_add,WO,Nat.add_comm]
     _<=256 ^ l1*256 ^ l2:=Qs _ v4
  .exact cmp false (by simp) h
  .exact cmp true (by simp) h
  .exact (au h).elim
 .rename_i hu;exact lX hop hx hy (YG ⟨rfl,hu⟩) (λe5=>by cases e5) h
 .rename_i hu;exact lX hop hx hy (YD (YG ⟨rfl,_,hu⟩)) (λe5=>by cases e5) h
 .rename_i hu;exact lX hop hx hy (YD (YD (YG ⟨rfl,_,hu⟩))) (λe5=>by cases e5) h
 .rename_i hu;exact lX hop hx hy (YD (YD (YD (YG ⟨rfl,_,_,hu⟩)))) (λe5=>by cases e5) h
 .rename_i hu;exact lX hop hx hy (YD (YD (YD (YD (YG ⟨rfl,_,_,_,hu⟩))))) (λe5=>by cases e5) h
 .rename_i hu
  split at h
  .rename_i hi
   exact lX hop hx hy (YD (YD (YD (YD (YD ⟨rfl,_,hu⟩))))) (λ_=>by simpa using hi) h
  .exact (au h).elim
 .rename_i fs hu;exact FG hop hx hy hu h
 .rename_i n el hu;exact FL hop hx hy hu h
 .exact (au h).elim
 .exact (au h).elim
end
end Go.Ev
end

