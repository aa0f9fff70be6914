/- THE ABSTRACT VALUES AND THE RESOLVED CODE of a checked evaluator of Go programs over the model; and the compiler from the model's code to it. -/
import Derived.Below
import Derived.Calls
import Derived.CallsIn
import Derived.OrdersIn
import Derived.RangeFuncRecord
import Derived.Orders
import Derived.Laws.Sem
import Derived.Laws.Entries
import Derived.KernelRfl
set_option linter.unusedVariables false
set_option linter.unusedSimpArgs false
set_option linter.unusedSectionVars false
namespace Go.Ev
open Go.RowKit

/-- An answer of the evaluator: 1 is good; all else is the code of a failure. -/
abbrev R := Nat
def no (c : Nat) : R := c + 2
theorem no_ne {c : Nat} (h : no c = 1) : False := by
  have h' : c + 2 = 1 := h
  omega

inductive V where
  | int (k n : Nat)
  | bool (b : Bool)
  | str (len n : Nat)
  | ptr (b off : Nat)
  | nilp
  | slice (b off len cap sz : Nat)
  | nils
  | map (b : Nat)
  | nilm
  | func (f : Nat) (caps : List V)
  | yld (b : Nat)
  | nilf
  | iface (t : Nat) (v : V)
  | nili
  | agg (l : List V)
  | tup (l : List V)

/-- Kinds of integers as numbers. -/
def kOf : IntKind → Nat
  | .i8 => 0 | .i16 => 1 | .i32 => 2 | .i64 => 3 | .u8 => 4 | .u16 => 5 | .u32 => 6 | .u64 => 7
def kKind : Nat → IntKind
  | 0 => .i8 | 1 => .i16 | 2 => .i32 | 3 => .i64 | 4 => .u8 | 5 => .u16 | 6 => .u32 | _ => .u64
theorem kKind_kOf (k : IntKind) : kKind (kOf k) = k := by cases k <;> rfl
theorem kOf_lt (k : IntKind) : kOf k < 8 := by cases k <;> decide

inductive I8 where
  | i0 | i1 | i2 | i3 | i4 | i5 | i6 | i7
  deriving DecidableEq
inductive N8 (α : Type) where
  | mk (a0 a1 a2 a3 a4 a5 a6 a7 : α)
abbrev Env := N8 (N8 (N8 V))
inductive Slot where
  | mk (a b c : I8)
  deriving DecidableEq
inductive Arg where
  | s (s : Slot)
  | c (v : V)
inductive BF where
  | add (m : Nat) | sub (m : Nat) | mul (m : Nat) | band | bor | bxor | bandn (m : Nat) | shl (m bits : Nat) | shr (half bits : Nat) | quo (half : Nat) | rem (half : Nat)
inductive CF where
  | eq | ne | lt (o m : Nat) | le (o m : Nat) | gt (o m : Nat) | ge (o m : Nat)
inductive OpE where
  | bad
  | mov (x : Arg)
  | pick (c x y : Arg)
  | newC (z : List V)
  | newB (n : Nat)
  | box (x : Arg)
  | build (zero : List V) (parts : List (Nat × Nat × Arg))
  | bslice (u8 : Bool) (len : Nat) (zero : List V) (parts : List (Nat × Nat × Arg))
  | load1 (a : Arg)
  | loadA (n : Nat) (a : Arg)
  | store1 (a x : Arg)
  | storeA (n : Nat) (a x : Arg)
  | nilc (x : Arg)
  | bin (kd ky : Nat) (f : BF) (x y : Arg)
  | cmp (kd : Nat) (f : CF) (x y : Arg)
  | sadd (x y : Arg)
  | scmp (neg : Bool) (x y : Arg)
  | eqv (kc : Nat) (neg : Bool) (x y : Arg)
  | lnot (x : Arg)
  | convI (src dst mode c : Nat) (x : Arg)
  | convB2S (x : Arg)
  | convS2B (x : Arg)
  | mkI (t : Nat) (x : Arg)
  | mkF (f : Nat) (caps : List Arg)
  | mkMap
  | mkSlice (u8 : Bool) (zero : List V) (l c : Arg)
  | slS (x : Arg) (lo hi : Option Arg)
  | slV (size : Nat) (x : Arg) (lo hi mx : Option Arg)
  | slA (n size : Nat) (x : Arg) (lo hi mx : Option Arg)
  | fadd (off : Nat) (x : Arg)
  | fld1 (off : Nat) (x : Arg)
  | fldA (off n : Nat) (x : Arg)
  | ixA (len size : Nat) (x i : Arg)
  | ixV (size : Nat) (x i : Arg)
  | ixS (x i : Arg)
  | ixG (len size : Nat) (agg : Bool) (x i : Arg)
  | look (ks : Bool) (zero : V) (ok : Bool) (m x : Arg)
  | mset (ks : Bool) (m x y : Arg)
  | mdel (ks : Bool) (m x : Arg)
  | extr (x : Arg) (i : Nat)
  | call (f : Nat) (args : List Arg)
  | callV (x : Arg) (args : List Arg)
  | app (u8 : Bool) (size : Nat) (s x : Arg)
  | copy (size : Nat) (d s : Arg)
  | lenS (x : Arg)
  | lenL (x : Arg)
  | lenM (x : Arg)
  | cap (x : Arg)
  | mm (kd o m : Nat) (mx : Bool) (x y : Arg)
  | aggEq (cls : List Nat) (neg : Bool) (x y : Arg)
  | mm3 (kd o m : Nat) (mx : Bool) (x y z : Arg)

inductive OpW where
  | mk (id : Nat) (dst : Option Slot) (guard : Option (Slot × Bool)) (cls : Nat) (op : OpE)
/-- In a region whose loads may pass its stores: tag 0, 1 as ever; 2: such a load; 3: such a store; its place; what stands before it; the address. -/
inductive OpW2 where
  | mk (id : Nat) (dst : Option Slot) (guard : Option (Slot × Bool)) (tag i bf : Nat) (ad : Arg) (op : OpE)
/-- Code of a round, as it stands. -/
inductive RC where
  | mk (nt fid : Nat) (c : Code)
inductive CodeE where
  | bad
  | skip
  | reg (ops : List OpW)
  | dreg (ops : List OpW)
  | freg (ops : List OpW2)
  | seq (a b : CodeE)
  | cond (c : Arg) (a b : CodeE)
  | block (id : Nat) (a : CodeE)
  | loop (a : CodeE)
  | exit (id : Nat)
  | ret
  | rangeF (g : Arg) (ps : List Slot) (assign body : RC)
inductive RV where
  | tmp (s : Slot)
  | cell1 (s : Slot)
  | cellA (s : Slot) (n : Nat)
def d8 : Nat → I8
  | 0 => .i0 | 1 => .i1 | 2 => .i2 | 3 => .i3 | 4 => .i4 | 5 => .i5 | 6 => .i6 | _ => .i7
def slotOf (t : Nat) : Slot := .mk (d8 (t / 64)) (d8 (t / 8 % 8)) (d8 (t % 8))

/-- Bytes as a number. -/
def enc : List UInt8 → Nat
  | [] => 0
  | x :: l => x.toNat + 256 * enc l
def constV1 : Value → Option V
  | .bool b => some (.bool b)
  | .int k n => if k.wrap n == n then some (.int (kOf k) (n % (2 ^ k.bits : Nat)).toNat) else none
  | .string s => some (.str s.data.toList.length (enc s.data.toList))
  | .pointer none => some .nilp
  | .slice none 0 0 => some .nils
  | .map none => some .nilm
  | .nilFunc => some .nilf
  | .nilIface => some .nili
  | _ => none
def consts : List Value → Option (List V)
  | [] => some []
  | v :: l => match constV1 v, consts l with
    | some u, some r => some (u :: r)
    | _, _ => none
def constV : Value → Option V
  | .agg cs => (consts cs.toList).map .agg
  | .tuple cs => (consts cs.toList).map .tup
  | v => constV1 v

def compArg (nt : Nat) : Operand → Option Arg
  | .tmp t => if t < nt then some (.s (slotOf t)) else none
  | .const v => (constV v).map .c
  | .func f => some (.c (.func (2 * f) []))
  | .global _ => none
def compArgs (nt : Nat) : List Operand → Option (List Arg)
  | [] => some []
  | x :: l => match compArg nt x, compArgs nt l with
    | some a, some r => some (a :: r)
    | _, _ => none

section
variable (P : Program) (nt : Nat)

def kindOf (t : TypeId) : Option IntKind := match P.underlying t with
  | some (.int k) => some k
  | _ => none
def isU8 (t : TypeId) : Bool := match P.underlying t with
  | some (.int .u8) => true
  | _ => false
def aggT (t : TypeId) : Option Bool := match P.underlying t with
  | some (.struct _) | some (.array _ _) => some true
  | some _ => some false
  | none => none
def szT (t : TypeId) : Option Nat := (P.info? t).map (·.size)
def zeroT (t : TypeId) : Option (List V) := match P.info? t with
  | some i => match i.zero with
    | some z => consts z.cells.toList
    | none => none
  | none => none
def zeroV (t : TypeId) : Option V := match P.info? t with
  | some i => match i.zero with
    | some z => constV z
    | none => none
  | none => none
def half (k : IntKind) : Nat := if k.signed then 2 ^ (k.bits - 1) else 2 ^ k.bits
def offK (k : IntKind) : Nat := if k.signed then 2 ^ (k.bits - 1) else 0

def bfOf (op : BinOp) (k : IntKind) : Option BF := match op with
  | .add => some (.add (2 ^ k.bits))
  | .sub => some (.sub (2 ^ k.bits))
  | .mul => some (.mul (2 ^ k.bits))
  | .and => some .band
  | .or => some .bor
  | .xor => some .bxor
  | .andNot => some (.bandn (2 ^ k.bits))
  | .shl => some (.shl (2 ^ k.bits) k.bits)
  | .shr => some (.shr (half k) k.bits)
  | .quo => some (.quo (half k))
  | .rem => some (.rem (half k))
  | _ => none
def cfOf (op : BinOp) (k : IntKind) : Option CF := match op with
  | .eql => some .eq
  | .neq => some .ne
  | .lss => some (.lt (offK k) (2 ^ k.bits))
  | .leq => some (.le (offK k) (2 ^ k.bits))
  | .gtr => some (.gt (offK k) (2 ^ k.bits))
  | .geq => some (.ge (offK k) (2 ^ k.bits))
  | _ => none
def isShift : BinOp → Bool
  | .shl | .shr => true
  | _ => false

def shOK (k : IntKind) : Bool := !k.signed || k.bits == 64
def isC : Arg → Bool
  | .c _ => true
  | .s _ => false
def eqvOp (kc : Nat) (op : BinOp) (x y : Arg) : OpE := match op with
  | .eql => .eqv kc false x y
  | .neq => .eqv kc true x y
  | _ => .bad
/-- Cells of a type whose values are compared cell by cell: 0: bools; 1: integers; 2: texts. -/
def cmpFs (rc : TypeId → Option (List Nat)) : List Field → Nat → Option (List Nat)
  | [], _ => some []
  | f :: l, off => if f.name == "_" then none else match rc f.type, szT P f.type, cmpFs rc l (off + (szT P f.type).getD 0) with
    | some c, some s, some r => if f.offset == off && s == c.length then some (c ++ r) else none
    | _, _, _ => none
def cmpT : Nat → TypeId → Option (List Nat)
  | 0, _ => none
  | d + 1, t => match P.underlying t with
    | some .bool => some [0]
    | some (.int _) => some [1]
    | some .string => some [2]
    | some (.struct fs) => if P.stoodInHeld t then none else cmpFs P (cmpT d) fs.toList 0
    | _ => none
def compAggL (op : BinOp) (t : TypeId) (c : List Nat) (x y : Arg) : OpE := if P.eqGuardType P.depth t then .bad else match op with
    | .eql => .aggEq c false x y
    | .neq => .aggEq c true x y
    | _ => .bad
def compAggEq (op : BinOp) (t : TypeId) (x y : Arg) : OpE := match cmpT P 4 t with
  | some c => compAggL P op t c x y
  | none => .bad
def compArrEq (op : BinOp) (t : TypeId) (n : Nat) (el : TypeId) (x y : Arg) : OpE := match cmpT P 1 el, szT P el with
  | some [q], some 1 => compAggL P op t (List.replicate n q) x y
  | _, _ => .bad
def compBin (op : BinOp) (xt yt : TypeId) (x y : Arg) : OpE := match P.underlying xt with
  | some (.int k) => match cfOf op k with
    | some f => .cmp (kOf k) f x y
    | none => match bfOf op k with
      | some f => if isShift op then (match kindOf P yt with | some ky => if shOK ky then .bin (kOf k) (kOf ky) f x y else .bad | none => .bad) else .bin (kOf k) (kOf k) f x y
      | none => .bad
  | some .string => match op with
    | .add => .sadd x y
    | .eql => .scmp false x y
    | .neq => .scmp true x y
    | _ => .bad
  | some .bool => eqvOp 0 op x y
  | some (.pointer _) => eqvOp 1 op x y
  | some (.slice _) => eqvOp 2 op x y
  | some (.map _ _) => eqvOp 3 op x y
  | some (.func _ _ _) => eqvOp 4 op x y
  | some (.interface _) => if isC x || isC y then eqvOp 5 op x y else .bad
  | some (.struct _) => compAggEq P op xt x y
  | some (.array n el) => compArrEq P op xt n el x y
  | some _ => .bad
  | none => .bad

def convOp (k k' : IntKind) (x : Arg) : OpE :=
  if k.signed && k.bits < k'.bits then .convI (kOf k) (kOf k') (2 ^ (k.bits - 1)) (2 ^ k'.bits - 2 ^ k.bits) x
  else .convI (kOf k) (kOf k') 0 (2 ^ k'.bits) x

def placesT (fs : Array Field) : Option (List (Nat × Nat)) := fs.toList.mapM fun f => (P.info? f.type).map fun i => (f.offset, i.size)
def fieldParts (pl : List (Nat × Nat)) : List (Nat × Arg) → Option (List (Nat × Nat × Arg))
  | [] => some []
  | (i, a) :: l => match pl[i]?, fieldParts pl l with
    | some p, some r => some ((p.1, p.2, a) :: r)
    | _, _ => none
def elemParts (s : Nat) (l : List (Nat × Arg)) : List (Nat × Nat × Arg) := l.map fun p => (p.1 * s, s, p.2)
def compParts : List (Nat × Operand) → Option (List (Nat × Arg))
  | [] => some []
  | (i, x) :: l => match compArg nt x, compParts l with
    | some a, some r => some ((i, a) :: r)
    | _, _ => none
def oArg : Option Operand → Option (Option Arg)
  | none => some none
  | some x => (compArg nt x).map some
def replL : Nat → List V → List V
  | 0, _ => []
  | n + 1, l => l ++ replL n l

/-- Keys: texts (true), integers (false). -/
def keyT (t : TypeId) : Option Bool := match P.underlying t with
  | some (.int _) => some false
  | some .string => some true
  | _ => none
def z8 : List V → Bool
  | [] => true
  | .int 4 0 :: l => z8 l
  | _ => false
def lenT (t : TypeId) : Bool := match P.underlying t with
  | some .string | some (.slice _) | some (.map _ _) => true
  | _ => false
def sliceT (t : TypeId) : Option TypeId := match P.underlying t with
  | some (.slice e) => some e
  | _ => none
def zlen (t : TypeId) (s : Nat) : Bool := match zeroT P t with
  | some z => z.length == s
  | none => false
def compBuiltin (b : Builtin) (as : List Operand) (ts : List TypeId) : OpE := match b with
  | .len => (match compArgs nt as, ts with
    | some [x], t :: _ => (match P.underlying t with
      | some .string => .lenS x
      | some (.slice _) => .lenL x
      | some (.map _ _) => .lenM x
      | _ => .bad)
    | _, _ => .bad)
  | .cap => (match compArgs nt as, ts with
    | some [x], t :: _ => (match sliceT P t with | some _ => .cap x | none => .bad)
    | _, _ => .bad)
  | .append => (match compArgs nt as, ts with
    | some [s, x], [st, xt] => (match sliceT P st with
      | some e => (match szT P e, P.info? e with
        | some s', some i => if 0 < s' && i.bytes ≤ 65536 && zlen P e s' && lenT P xt then .app (isU8 P e && s' == 1) s' s x else .bad
        | _, _ => .bad)
      | none => .bad)
    | _, _ => .bad)
  | .copy => (match compArgs nt as, ts with
    | some [d, s], dt :: _ => (match sliceT P dt with
      | some e => (match szT P e with | some s' => .copy s' d s | none => .bad)
      | none => .bad)
    | _, _ => .bad)
  | .delete => (match compArgs nt as, ts with
    | some [m, x], mt :: _ => (match P.underlying mt with
      | some (.map kt _) => (match keyT P kt with
        | some ks => .mdel ks m x
        | none => .bad)
      | _ => .bad)
    | _, _ => .bad)
  | .max => (match compArgs nt as, ts with
    | some [x, y], t :: _ => (match kindOf P t with | some k => .mm (kOf k) (offK k) (2 ^ k.bits) true x y | none => .bad)
    | some [x, y, z], t :: _ => (match kindOf P t with | some k => .mm3 (kOf k) (offK k) (2 ^ k.bits) true x y z | none => .bad)
    | _, _ => .bad)
  | .min => (match compArgs nt as, ts with
    | some [x, y], t :: _ => (match kindOf P t with | some k => .mm (kOf k) (offK k) (2 ^ k.bits) false x y | none => .bad)
    | some [x, y, z], t :: _ => (match kindOf P t with | some k => .mm3 (kOf k) (offK k) (2 ^ k.bits) false x y z | none => .bad)
    | _, _ => .bad)
  | _ => .bad
def compOp (o : Oper) : OpE :=
  match o.op with
  | .move x | .assign x => match compArg nt x with | some a => .mov a | none => .bad
  | .pick c x y => match compArg nt c, compArg nt x, compArg nt y with | some c, some a, some b => .pick c a b | _, _, _ => .bad
  | .alloc t => match zeroT P t, P.underlying t with
    | some z, some (.array n _) => if z8 z && z.length == n then .newB n else .newC z
    | some z, some _ => .newC z
    | _, _ => .bad
  | .box _ x => match compArg nt x with | some a => .box a | none => .bad
  | .build t parts => match zeroT P t, compParts nt parts.toList, P.underlying t with
    | some z, some ps, some (.struct fs) => match placesT P fs with | some pl => (match fieldParts pl ps with | some q => .build z q | none => .bad) | none => .bad
    | some z, some ps, some (.array _ e) => match szT P e with | some s => .build z (elemParts s ps) | none => .bad
    | _, _, _ => .bad
  | .buildSlice t len parts => match compParts nt parts.toList, P.underlying t with
    | some ps, some (.slice e) => match szT P e, zeroT P e with
      | some s, some z => if len * s ≤ 1024 && z.length == s then .bslice (isU8 P e && 0 < len) len (replL len z) (elemParts s ps) else .bad
      | _, _ => .bad
    | _, _ => .bad
  | .load t a => match compArg nt a, aggT P t, szT P t with
    | some a, some true, some n => .loadA n a
    | some a, some false, _ => .load1 a
    | _, _, _ => .bad
  | .store t a x => match compArg nt a, compArg nt x, aggT P t, szT P t with
    | some a, some x, some true, some n => .storeA n a x
    | some a, some x, some false, some 1 => .store1 a x
    | _, _, _, _ => .bad
  | .nilCheck x => match compArg nt x with | some a => .nilc a | none => .bad
  | .binOp op xt x y yt => match compArg nt x, compArg nt y with | some x, some y => compBin P op xt yt x y | _, _ => .bad
  | .unOp op xt x => match compArg nt x, op with
    | some x, .not => .lnot x
    | some x, .neg => match kindOf P xt with | some k => .bin (kOf k) (kOf k) (.sub (2 ^ k.bits)) (.c (.int (kOf k) 0)) x | none => .bad
    | some x, .xor => match kindOf P xt with | some k => .bin (kOf k) (kOf k) .bxor (.c (.int (kOf k) (2 ^ k.bits - 1))) x | none => .bad
    | _, _ => .bad
  | .convert s d x => match compArg nt x, P.underlying s, P.underlying d with
    | some x, some (.int k), some (.int k') => convOp k k' x
    | some x, some (.slice e), some .string => if isU8 P e then .convB2S x else .bad
    | some x, some .string, some (.slice e) => if isU8 P e then .convS2B x else .bad
    | some x, some .string, some .string => .sadd x (.c (.str 0 0))
    | _, _, _ => .bad
  | .makeInterface t x => match compArg nt x, P.underlying t with
    | some _, some (.interface _) => .bad
    | some x, some _ => .mkI t x
    | _, _ => .bad
  | .makeFunc (.func f) first caps => match first.toList, compArgs nt caps.toList with
    | [], some l => .mkF (2 * f) l
    | q :: qs, some [] => match compArgs nt (q :: qs) with | some l => .mkF (2 * f + 1) l | none => .bad
    | _, _ => .bad
  | .makeMap _ none => .mkMap
  | .makeSlice t l c => match compArg nt l, compArg nt c, P.underlying t with
    | some l, some c, some (.slice e) => match zeroT P e, szT P e, P.info? e with
      | some z, some s, some i => if z.length == s && 0 < s && i.bytes ≤ 65536 then .mkSlice (z8 z && s == 1) z l c else .bad
      | _, _, _ => .bad
    | _, _, _ => .bad
  | .slice t x lo hi mx => match compArg nt x, oArg nt lo, oArg nt hi, oArg nt mx with
    | some x, some lo, some hi, some mx => match P.underlying t with
      | some .string => match mx with | none => .slS x lo hi | some _ => .bad
      | some (.slice e) => match szT P e with | some s => (match hi, mx with | none, some _ => .bad | _, _ => .slV s x lo hi mx) | none => .bad
      | some (.array n e) => match szT P e with | some s => (match hi, mx with | none, some _ => .bad | _, _ => .slA n s x lo hi mx) | none => .bad
      | _ => .bad
    | _, _, _, _ => .bad
  | .fieldAddr t x f => match compArg nt x, P.underlying t with
    | some x, some (.struct fs) => match fs[f]? with
      | some fd => match szT P fd.type with | some (_ + 1) => .fadd fd.offset x | _ => .bad
      | none => .bad
    | _, _ => .bad
  | .field t x f => match compArg nt x, P.underlying t with
    | some x, some (.struct fs) => match fs[f]? with
      | some fd => match aggT P fd.type, szT P fd.type with
        | some true, some n => .fldA fd.offset n x
        | some false, some _ => .fld1 fd.offset x
        | _, _ => .bad
      | none => .bad
    | _, _ => .bad
  | .indexAddr t x i => match compArg nt x, compArg nt i, P.underlying t with
    | some x, some i, some (.array len e) => match szT P e with | some s => .ixA len s x i | none => .bad
    | some x, some i, some (.slice e) => match szT P e with | some s => .ixV s x i | none => .bad
    | _, _, _ => .bad
  | .index t x i => match compArg nt x, compArg nt i, P.underlying t with
    | some x, some i, some .string => .ixS x i
    | some x, some i, some (.array len e) => match szT P e, aggT P e with | some s, some b => .ixG len s b x i | _, _ => .bad
    | _, _, _ => .bad
  | .lookup t m x ok => match compArg nt m, compArg nt x, P.underlying t with
    | some m, some x, some (.map kt e) => match zeroV P e, keyT P kt with
      | some z, some ks => .look ks z ok m x
      | _, _ => .bad
    | _, _, _ => .bad
  | .mapUpdate t m x y | .insert t m x y => match compArg nt m, compArg nt x, compArg nt y, P.underlying t with
    | some m, some x, some y, some (.map kt _) => match keyT P kt with
      | some ks => .mset ks m x y
      | none => .bad
    | _, _, _, _ => .bad
  | .extract x i => match compArg nt x with | some x => .extr x i | none => .bad
  | .call { callee := .value (.func f), args, argTypes := _ } => match compArgs nt args.toList, P.funcs[f]? with
    | some l, some _ => .call (2 * f) l
    | _, _ => .bad
  | .call { callee := .value (.tmp t), args, argTypes := _ } => match compArg nt (.tmp t), compArgs nt args.toList with | some x, some l => .callV x l | _, _ => .bad
  | .call { callee := .builtin b, args, argTypes := ts } => compBuiltin P nt b args.toList ts.toList
  | _ => .bad

/-- Does an operation touch no memory? -/
def pureOp : OpE → Bool
  | .mov _ | .pick _ _ _ | .build _ _ | .nilc _ | .bin .. | .cmp .. | .sadd .. | .scmp .. | .eqv .. | .lnot _ | .convI .. | .mkI .. | .mkF .. | .slS .. | .slV .. | .slA .. | .fadd .. | .fld1 .. | .fldA .. | .ixA .. | .ixV .. | .ixS .. | .ixG .. | .extr .. | .aggEq .. => true
  | _ => false
def guardOf (ops : Array Oper) (g : Option (Nat × Bool)) : Option (Option (Slot × Bool)) := match g with
  | none => some none
  | some (j, b) => match ops[j]? with
    | some o => match o.dst with
      | some d => if d < nt then some (some (slotOf d, b)) else none
      | none => none
    | none => none
def dstOf (d : Option Tmp) : Option (Option Slot) := match d with
  | none => some none
  | some d => if d < nt then some (some (slotOf d)) else none
/-- Is operation i ordered against every other one that touches memory? -/
def isolated (l : List Bool) (bf : Array Nat) (i : Nat) : Bool := l.zipIdx.all fun p => p.1 || p.2 == i || (bf.getD i 0).testBit p.2 || (bf.getD p.2 0).testBit i
/-- A new block of zeros. -/
def isAl : OpE → Bool
  | .newC _ | .newB _ => true
  | _ => false
/-- .. and it may be passed by the new blocks that stand behind it. -/
def isolatedA (l al : List Bool) (bf : Array Nat) (i : Nat) : Bool := !(al.getD i false) && l.zipIdx.all fun p => p.1 || p.2 == i || (bf.getD i 0).testBit p.2 || (bf.getD p.2 0).testBit i || (al.getD p.2 false && Nat.blt i p.2)
def compRegG (base : Nat) (ops : Array Oper) (pl al : List Bool) (bf : Array Nat) : List Oper → Nat → Option (List OpW)
  | [], _ => some []
  | o :: l, i => match dstOf nt o.dst, guardOf nt ops o.guard, compRegG base ops pl al bf l (i + 1) with
    | some d, some g, some r =>
      let c := compOp P nt o
      some (.mk (base + i) d g (if pureOp c || isolatedA pl al bf i then 0 else 1) c :: r)
    | _, _, _ => none
/-- What the walk over all orders leans on: an operation's names are written by none that it is not ordered against. -/
def namesOf (ops : Array Oper) (o : Oper) : List Tmp := o.dst.toList ++ o.looksAt ops
def apartOK (ops : Array Oper) (bf : Array Nat) : Bool :=
  ops.toList.zipIdx.all fun p => ops.toList.zipIdx.all fun q => p.2 == q.2 || (match p.1.dst with
    | none => true
    | some d => !(namesOf ops q.1).contains d || (if p.2 < q.2 then (bf.getD q.2 0).testBit p.2 else (bf.getD p.2 0).testBit q.2))
/-- No operation waits for one that stands behind it. -/
def edgesOK (ops : Array Oper) : Bool := ops.toList.zipIdx.all fun p => p.1.after.all fun e => !Region.binds .any e || e.on < p.2
def isLd : OpE → Bool
  | .load1 _ | .loadA _ _ => true
  | _ => false
def isSt : OpE → Bool
  | .store1 _ _ | .storeA _ _ _ | .app _ _ _ _ => true
  | _ => false
def adOf : OpE → Arg
  | .load1 a | .loadA _ a => a
  | .store1 a _ | .storeA _ a _ => a
  | .app _ _ s _ => s
  | _ => .c .nilp
def ordd (bf : Array Nat) (i j : Nat) : Bool := (bf.getD i 0).testBit j || (bf.getD j 0).testBit i
def firmL (cs : List OpE) (bf : Array Nat) (i : Nat) : Bool := isSt (cs.getD i .bad) && cs.zipIdx.all fun q => pureOp q.1 || isLd q.1 || q.2 == i || ordd bf i q.2
def floatL (cs : List OpE) (bf : Array Nat) (i : Nat) : Bool := isLd (cs.getD i .bad) && cs.zipIdx.any fun q => firmL cs bf q.2 && !(ordd bf i q.2)
def purL (cs : List OpE) (bf : Array Nat) : List Bool := cs.zipIdx.map fun q => pureOp q.1 || floatL cs bf q.2
def isoF (cs : List OpE) (bf : Array Nat) (i : Nat) : Bool := isolated (purL cs bf) bf i && (isSt (cs.getD i .bad) || isolated (cs.map pureOp) bf i)
def needF (cs : List OpE) (bf : Array Nat) : Bool := cs.zipIdx.any fun q => isSt q.1 && !(isolated (cs.map pureOp) bf q.2)
def tagOf (cs : List OpE) (bf : Array Nat) (c : OpE) (i : Nat) : Nat := if floatL cs bf i then 2 else if pureOp c then 0 else if isoF cs bf i then (if isolated (cs.map pureOp) bf i then 0 else 3) else 1
def compFregG (base : Nat) (ops : Array Oper) (cs : List OpE) (bf : Array Nat) : List Oper → Nat → Option (List OpW2)
  | [], _ => some []
  | o :: l, i => match dstOf nt o.dst, guardOf nt ops o.guard, compFregG base ops cs bf l (i + 1) with
    | some d, some g, some r => some (.mk (base + i) d g (tagOf cs bf (compOp P nt o) i) i (bf.getD i 0) (adOf (compOp P nt o)) (compOp P nt o) :: r)
    | _, _, _ => none
/-- A region that loads, and stores back what it has loaded: the loads alone. -/
def loadOf (o : Oper) : Option (TypeId × Nat × Nat) := match o.op, o.dst, o.guard with
  | .load t (.tmp s), some d, none => some (t, s, d)
  | _, _, _ => none
def isLoad (o : Oper) : Bool := (loadOf o).isSome
def backOf (ops : Array Oper) (o : Oper) : Bool := match o.op, o.dst, o.guard with
  | .store t (.tmp s) (.tmp d), none, none => o.after.toList.any fun e => Region.binds .any e && (match ops[e.on]? with | some o' => loadOf o' == some (t, s, d) | none => false)
  | _, _, _ => false
def loadDsts (ops : Array Oper) : List Nat := ops.toList.filterMap fun o => (loadOf o).map (·.2.2)
def oneT (t : TypeId) : Bool := match aggT P t with
  | some true => (szT P t).isSome
  | some false => szT P t == some 1
  | none => false
def backOK (ops : Array Oper) : Bool :=
  edgesOK ops && (ops.toList.all fun o => isLoad o || backOf ops o) && decide (loadDsts ops).Nodup && ops.toList.all fun o => match loadOf o with
    | some (t, s, _) => !(loadDsts ops).contains s && oneT P t
    | none => true
def compReg (base : Nat) (ops : Array Oper) (draw : Bool) : CodeE :=
  if draw then
    if backOK P ops then (match compRegG P nt base ops [] [] #[] (ops.toList.filter isLoad) 0 with
      | some l => .reg l
      | none => .bad) else
    let bf := Region.before ops
    if apartOK ops bf && edgesOK ops then
      if needF (ops.toList.map (compOp P nt)) bf then (match compFregG P nt base ops (ops.toList.map (compOp P nt)) bf ops.toList 0 with
        | some l => .freg l
        | none => .bad) else
      match compRegG P nt base ops (ops.toList.map fun o => pureOp (compOp P nt o)) (ops.toList.map fun o => isAl (compOp P nt o)) bf ops.toList 0 with
      | some l => .dreg l
      | none => .bad
    else .bad
  else match compRegG P nt base ops [] [] #[] ops.toList 0 with
    | some l => .reg l
    | none => .bad
def compPs : List Tmp → Option (List Slot)
  | [] => some []
  | t :: l => match compPs l with
    | some r => if t < nt then some (slotOf t :: r) else none
    | none => none
def compC (fid : Nat) (inl : Bool) : Code → CodeE
  | .skip => .skip
  | .region id ops draw => compReg P nt (fid * 100000 + id * 100) ops draw
  | .seq a b => .seq (compC fid inl a) (compC fid inl b)
  | .cond c a b => match compArg nt c with
    | some x => .cond x (compC fid inl a) (compC fid inl b)
    | none => .bad
  | .block id a => .block id (compC fid inl a)
  | .loop a => .loop (compC fid inl a)
  | .exit id => .exit id
  | .ret => .ret
  | .rangeFunc g ps as bo => if inl then .bad else match compArg nt g, compPs nt ps.toList with
    | some x, some l => .rangeF x l (.mk nt fid as) (.mk nt fid bo)
    | _, _ => .bad
  | _ => .bad
def compRC : RC → CodeE
  | .mk nt fid c => compC P nt fid true c
def compRes (l : List ResultVar) : Option (List RV) := match l with
  | [] => some []
  | .tmp t :: l => match compRes l with
    | some r => if t < nt then some (.tmp (slotOf t) :: r) else none
    | none => none
  | .cell a t :: l => match compRes l, aggT P t, szT P t with
    | some r, some false, _ => if a < nt then some (.cell1 (slotOf a) :: r) else none
    | some r, some true, some n => if a < nt then some (.cellA (slotOf a) n :: r) else none
    | _, _, _ => none
end
end Go.Ev
