/- THE EVALUATOR: code with its slots resolved, and what it does to an abstract state; written by the recursors, in continuation style, for the kernel's sake. -/
import Derived.Test.YtaodjhgfhdncgaaGreatDoorEv2
set_option linter.unusedVariables false
set_option linter.unusedSimpArgs false
set_option linter.unusedSectionVars false
set_option maxRecDepth 100000
namespace Go.Ev


noncomputable def g80 {α : Type} (t : N8 α) (k : α → R) : R := N8.rec (motive := fun _ => R) (fun a0 a1 a2 a3 a4 a5 a6 a7 => k a0) t
noncomputable def u80 {α : Type} (t : N8 α) (f : α → (α → R) → R) (k : N8 α → R) : R := N8.rec (motive := fun _ => R) (fun a0 a1 a2 a3 a4 a5 a6 a7 => f a0 fun x => k (N8.mk x a1 a2 a3 a4 a5 a6 a7)) t
noncomputable def g81 {α : Type} (t : N8 α) (k : α → R) : R := N8.rec (motive := fun _ => R) (fun a0 a1 a2 a3 a4 a5 a6 a7 => k a1) t
noncomputable def u81 {α : Type} (t : N8 α) (f : α → (α → R) → R) (k : N8 α → R) : R := N8.rec (motive := fun _ => R) (fun a0 a1 a2 a3 a4 a5 a6 a7 => f a1 fun x => k (N8.mk a0 x a2 a3 a4 a5 a6 a7)) t
noncomputable def g82 {α : Type} (t : N8 α) (k : α → R) : R := N8.rec (motive := fun _ => R) (fun a0 a1 a2 a3 a4 a5 a6 a7 => k a2) t
noncomputable def u82 {α : Type} (t : N8 α) (f : α → (α → R) → R) (k : N8 α → R) : R := N8.rec (motive := fun _ => R) (fun a0 a1 a2 a3 a4 a5 a6 a7 => f a2 fun x => k (N8.mk a0 a1 x a3 a4 a5 a6 a7)) t
noncomputable def g83 {α : Type} (t : N8 α) (k : α → R) : R := N8.rec (motive := fun _ => R) (fun a0 a1 a2 a3 a4 a5 a6 a7 => k a3) t
noncomputable def u83 {α : Type} (t : N8 α) (f : α → (α → R) → R) (k : N8 α → R) : R := N8.rec (motive := fun _ => R) (fun a0 a1 a2 a3 a4 a5 a6 a7 => f a3 fun x => k (N8.mk a0 a1 a2 x a4 a5 a6 a7)) t
noncomputable def g84 {α : Type} (t : N8 α) (k : α → R) : R := N8.rec (motive := fun _ => R) (fun a0 a1 a2 a3 a4 a5 a6 a7 => k a4) t
noncomputable def u84 {α : Type} (t : N8 α) (f : α → (α → R) → R) (k : N8 α → R) : R := N8.rec (motive := fun _ => R) (fun a0 a1 a2 a3 a4 a5 a6 a7 => f a4 fun x => k (N8.mk a0 a1 a2 a3 x a5 a6 a7)) t
noncomputable def g85 {α : Type} (t : N8 α) (k : α → R) : R := N8.rec (motive := fun _ => R) (fun a0 a1 a2 a3 a4 a5 a6 a7 => k a5) t
noncomputable def u85 {α : Type} (t : N8 α) (f : α → (α → R) → R) (k : N8 α → R) : R := N8.rec (motive := fun _ => R) (fun a0 a1 a2 a3 a4 a5 a6 a7 => f a5 fun x => k (N8.mk a0 a1 a2 a3 a4 x a6 a7)) t
noncomputable def g86 {α : Type} (t : N8 α) (k : α → R) : R := N8.rec (motive := fun _ => R) (fun a0 a1 a2 a3 a4 a5 a6 a7 => k a6) t
noncomputable def u86 {α : Type} (t : N8 α) (f : α → (α → R) → R) (k : N8 α → R) : R := N8.rec (motive := fun _ => R) (fun a0 a1 a2 a3 a4 a5 a6 a7 => f a6 fun x => k (N8.mk a0 a1 a2 a3 a4 a5 x a7)) t
noncomputable def g87 {α : Type} (t : N8 α) (k : α → R) : R := N8.rec (motive := fun _ => R) (fun a0 a1 a2 a3 a4 a5 a6 a7 => k a7) t
noncomputable def u87 {α : Type} (t : N8 α) (f : α → (α → R) → R) (k : N8 α → R) : R := N8.rec (motive := fun _ => R) (fun a0 a1 a2 a3 a4 a5 a6 a7 => f a7 fun x => k (N8.mk a0 a1 a2 a3 a4 a5 a6 x)) t
noncomputable def g8 {α : Type} (i : I8) : N8 α → (α → R) → R := I8.rec (motive := fun _ => N8 α → (α → R) → R) g80 g81 g82 g83 g84 g85 g86 g87 i
noncomputable def u8 {α : Type} (i : I8) : N8 α → (α → (α → R) → R) → (N8 α → R) → R := I8.rec (motive := fun _ => N8 α → (α → (α → R) → R) → (N8 α → R) → R) u80 u81 u82 u83 u84 u85 u86 u87 i
noncomputable def getS (s : Slot) (e : Env) (k : V → R) : R := Slot.rec (motive := fun _ => R) (fun a b c => g8 a e fun t => g8 b t fun u => g8 c u k) s
noncomputable def setS (s : Slot) (v : V) (e : Env) (k : Env → R) : R := Slot.rec (motive := fun _ => R) (fun a b c => u8 a e (fun t k1 => u8 b t (fun u k2 => u8 c u (fun _ k3 => k3 v) k2) k1) k) s
noncomputable def getA (a : Arg) (e : Env) (k : V → R) : R := Arg.rec (motive := fun _ => R) (fun s => getS s e k) (fun v => k v) a
noncomputable def getAs (l : List Arg) (e : Env) : (List V → R) → R := List.rec (motive := fun _ => (List V → R) → R) (fun k => k []) (fun a _ ih k => getA a e fun v => ih fun r => k (v :: r)) l
noncomputable def forceN (n : Nat) (k : Nat → R) : R := Nat.rec (motive := fun _ => R) (k Nat.zero) (fun m _ => k (Nat.succ m)) n
noncomputable def ifB (c : Bool) (t f : R) : R := Bool.rec (motive := fun _ => R) f t c

noncomputable def vInt (id : Nat) (x : V) (k : Nat → Nat → R) : R := V.rec (motive_1 := fun _ => R) (motive_2 := fun _ => R) (k) (fun _ => no 0) (fun _ _ => no 0) (fun _ _ => no 0) (no 0) (fun _ _ _ _ _ => no 0) (no 0) (fun _ => no 0) (no 0) (fun _ _ _ => no 0) (fun _ => no 0) (no 0) (fun _ _ _ => no 0) (no 0) (fun _ _ => no 0) (fun _ _ => no 0) (0 : R) (fun _ _ _ _ => (0 : R)) x
noncomputable def vBool (id : Nat) (x : V) (k : Bool → R) : R := V.rec (motive_1 := fun _ => R) (motive_2 := fun _ => R) (fun _ _ => no 0) (k) (fun _ _ => no 0) (fun _ _ => no 0) (no 0) (fun _ _ _ _ _ => no 0) (no 0) (fun _ => no 0) (no 0) (fun _ _ _ => no 0) (fun _ => no 0) (no 0) (fun _ _ _ => no 0) (no 0) (fun _ _ => no 0) (fun _ _ => no 0) (0 : R) (fun _ _ _ _ => (0 : R)) x
noncomputable def vStr (id : Nat) (x : V) (k : Nat → Nat → R) : R := V.rec (motive_1 := fun _ => R) (motive_2 := fun _ => R) (fun _ _ => no 0) (fun _ => no 0) (k) (fun _ _ => no 0) (no 0) (fun _ _ _ _ _ => no 0) (no 0) (fun _ => no 0) (no 0) (fun _ _ _ => no 0) (fun _ => no 0) (no 0) (fun _ _ _ => no 0) (no 0) (fun _ _ => no 0) (fun _ _ => no 0) (0 : R) (fun _ _ _ _ => (0 : R)) x
noncomputable def vPtr (id : Nat) (x : V) (k : Nat → Nat → R) : R := V.rec (motive_1 := fun _ => R) (motive_2 := fun _ => R) (fun _ _ => no 0) (fun _ => no 0) (fun _ _ => no 0) (k) (no 0) (fun _ _ _ _ _ => no 0) (no 0) (fun _ => no 0) (no 0) (fun _ _ _ => no 0) (fun _ => no 0) (no 0) (fun _ _ _ => no 0) (no 0) (fun _ _ => no 0) (fun _ _ => no 0) (0 : R) (fun _ _ _ _ => (0 : R)) x
noncomputable def vSlice (id : Nat) (x : V) (k : Nat → Nat → Nat → Nat → Nat → R) : R := V.rec (motive_1 := fun _ => R) (motive_2 := fun _ => R) (fun _ _ => no 0) (fun _ => no 0) (fun _ _ => no 0) (fun _ _ => no 0) (no 0) (k) (no 0) (fun _ => no 0) (no 0) (fun _ _ _ => no 0) (fun _ => no 0) (no 0) (fun _ _ _ => no 0) (no 0) (fun _ _ => no 0) (fun _ _ => no 0) (0 : R) (fun _ _ _ _ => (0 : R)) x
noncomputable def vSliceN (id : Nat) (x : V) (k : Nat → Nat → Nat → Nat → Nat → R) (z : R) : R := V.rec (motive_1 := fun _ => R) (motive_2 := fun _ => R) (fun _ _ => no 0) (fun _ => no 0) (fun _ _ => no 0) (fun _ _ => no 0) (no 0) (k) (z) (fun _ => no 0) (no 0) (fun _ _ _ => no 0) (fun _ => no 0) (no 0) (fun _ _ _ => no 0) (no 0) (fun _ _ => no 0) (fun _ _ => no 0) (0 : R) (fun _ _ _ _ => (0 : R)) x
noncomputable def vMap (id : Nat) (x : V) (k : Nat → R) : R := V.rec (motive_1 := fun _ => R) (motive_2 := fun _ => R) (fun _ _ => no 0) (fun _ => no 0) (fun _ _ => no 0) (fun _ _ => no 0) (no 0) (fun _ _ _ _ _ => no 0) (no 0) (k) (no 0) (fun _ _ _ => no 0) (fun _ => no 0) (no 0) (fun _ _ _ => no 0) (no 0) (fun _ _ => no 0) (fun _ _ => no 0) (0 : R) (fun _ _ _ _ => (0 : R)) x
noncomputable def vMapN (id : Nat) (x : V) (k : Nat → R) (z : R) : R := V.rec (motive_1 := fun _ => R) (motive_2 := fun _ => R) (fun _ _ => no 0) (fun _ => no 0) (fun _ _ => no 0) (fun _ _ => no 0) (no 0) (fun _ _ _ _ _ => no 0) (no 0) (k) (z) (fun _ _ _ => no 0) (fun _ => no 0) (no 0) (fun _ _ _ => no 0) (no 0) (fun _ _ => no 0) (fun _ _ => no 0) (0 : R) (fun _ _ _ _ => (0 : R)) x
noncomputable def vFunc (id : Nat) (x : V) (k : Nat → List V → R) : R := V.rec (motive_1 := fun _ => R) (motive_2 := fun _ => R) (fun _ _ => no 0) (fun _ => no 0) (fun _ _ => no 0) (fun _ _ => no 0) (no 0) (fun _ _ _ _ _ => no 0) (no 0) (fun _ => no 0) (no 0) (fun f l _ => k f l) (fun _ => no 0) (no 0) (fun _ _ _ => no 0) (no 0) (fun _ _ => no 0) (fun _ _ => no 0) (0 : R) (fun _ _ _ _ => (0 : R)) x
noncomputable def vIface (id : Nat) (x : V) (k : Nat → V → R) : R := V.rec (motive_1 := fun _ => R) (motive_2 := fun _ => R) (fun _ _ => no 0) (fun _ => no 0) (fun _ _ => no 0) (fun _ _ => no 0) (no 0) (fun _ _ _ _ _ => no 0) (no 0) (fun _ => no 0) (no 0) (fun _ _ _ => no 0) (fun _ => no 0) (no 0) (fun t v _ => k t v) (no 0) (fun _ _ => no 0) (fun _ _ => no 0) (0 : R) (fun _ _ _ _ => (0 : R)) x
noncomputable def vAgg (id : Nat) (x : V) (k : List V → R) : R := V.rec (motive_1 := fun _ => R) (motive_2 := fun _ => R) (fun _ _ => no 0) (fun _ => no 0) (fun _ _ => no 0) (fun _ _ => no 0) (no 0) (fun _ _ _ _ _ => no 0) (no 0) (fun _ => no 0) (no 0) (fun _ _ _ => no 0) (fun _ => no 0) (no 0) (fun _ _ _ => no 0) (no 0) (fun l _ => k l) (fun _ _ => no 0) (0 : R) (fun _ _ _ _ => (0 : R)) x
noncomputable def vTup (id : Nat) (x : V) (k : List V → R) : R := V.rec (motive_1 := fun _ => R) (motive_2 := fun _ => R) (fun _ _ => no 0) (fun _ => no 0) (fun _ _ => no 0) (fun _ _ => no 0) (no 0) (fun _ _ _ _ _ => no 0) (no 0) (fun _ => no 0) (no 0) (fun _ _ _ => no 0) (fun _ => no 0) (no 0) (fun _ _ _ => no 0) (no 0) (fun _ _ => no 0) (fun l _ => k l) (0 : R) (fun _ _ _ _ => (0 : R)) x

/-! ### lists -/
noncomputable def nth (id : Nat) (l : List V) : Nat → (V → R) → R := List.rec (motive := fun _ => Nat → (V → R) → R) (fun _ _ => no 0) (fun v _ ih i k => Nat.rec (motive := fun _ => R) (k v) (fun j _ => ih j k) i) l
noncomputable def takeN (id : Nat) (l : List V) : Nat → (List V → R) → R := List.rec (motive := fun _ => Nat → (List V → R) → R) (fun i k => Nat.rec (motive := fun _ => R) (k []) (fun _ _ => no 0) i) (fun v _ ih i k => Nat.rec (motive := fun _ => R) (k []) (fun j _ => ih j fun r => k (v :: r)) i) l
noncomputable def dropN (id : Nat) (l : List V) : Nat → (List V → R) → R := List.rec (motive := fun _ => Nat → (List V → R) → R) (fun i k => Nat.rec (motive := fun _ => R) (k []) (fun _ _ => no 0) i) (fun v l ih i k => Nat.rec (motive := fun _ => R) (k (v :: l)) (fun j _ => ih j k) i) l
noncomputable def appL (l m : List V) : (List V → R) → R := List.rec (motive := fun _ => (List V → R) → R) (fun k => k m) (fun v _ ih k => ih fun r => k (v :: r)) l
/-- m is laid over l's beginning. -/
noncomputable def over (id : Nat) (m : List V) : List V → (List V → R) → R := List.rec (motive := fun _ => List V → (List V → R) → R) (fun l k => k l) (fun x _ ih l k => List.rec (motive := fun _ => R) (no 0) (fun _ r _ => ih r fun q => k (x :: q)) l) m
/-- m is laid into l from a place on. -/
noncomputable def setAt (id : Nat) (m l : List V) : Nat → (List V → R) → R := List.rec (motive := fun _ => Nat → (List V → R) → R) (fun i k => Nat.rec (motive := fun _ => R) (over id m [] k) (fun _ _ => no 0) i) (fun v l ih i k => Nat.rec (motive := fun _ => R) (over id m (v :: l) k) (fun j _ => ih j fun r => k (v :: r)) i) l
noncomputable def lenL (l : List V) : Nat := List.rec (motive := fun _ => Nat) 0 (fun _ _ ih => Nat.succ ih) l
noncomputable def repL (m : List V) (n : Nat) : (List V → R) → R := Nat.rec (motive := fun _ => (List V → R) → R) (fun k => k []) (fun _ ih k => ih fun r => appL m r k) n
noncomputable def isOne (id : Nat) (x : V) (k : R) : R := V.rec (motive_1 := fun _ => R) (motive_2 := fun _ => R) (fun _ _ => k) (fun _ => k) (fun _ _ => k) (fun _ _ => k) (k) (fun _ _ _ _ _ => k) (k) (fun _ => k) (k) (fun _ _ _ => k) (fun _ => k) (k) (fun _ _ _ => k) (k) (fun _ _ => no 0) (fun _ _ => no 0) (0 : R) (fun _ _ _ _ => (0 : R)) x
/-- All are of one cell. -/
noncomputable def allOne (id : Nat) (l : List V) (k : R) : R := List.rec (motive := fun _ => R) k (fun v _ ih => isOne id v ih) l
/-- Bytes as one number. -/
noncomputable def packB (id : Nat) (l : List V) : (Nat → Nat → R) → R := List.rec (motive := fun _ => (Nat → Nat → R) → R) (fun k => k 0 0) (fun v _ ih k => vInt id v fun kd x => ifB (Nat.beq kd 4) (ih fun len n => forceN (Nat.add x (Nat.mul 256 n)) fun n' => forceN (Nat.succ len) fun len' => k len' n') (no 0)) l
noncomputable def unpackB (len : Nat) : Nat → (List V → R) → R := Nat.rec (motive := fun _ => Nat → (List V → R) → R) (fun _ k => k []) (fun _ ih n k => forceN (Nat.mod n 256) fun x => forceN (Nat.div n 256) fun n' => ih n' fun r => k (.int 4 x :: r)) len
noncomputable def vCells (id : Nat) (x : V) (k : List V → R) : R := V.rec (motive_1 := fun _ => R) (motive_2 := fun _ => R) (fun kd n => k [.int kd n]) (fun b => k [.bool b]) (fun l n => k [.str l n]) (fun b o => k [.ptr b o]) (k [.nilp]) (fun b o l c s => k [.slice b o l c s]) (k [.nils]) (fun b => k [.map b]) (k [.nilm]) (fun f l ih => k [.func f l]) (fun b => k [.yld b]) (k [.nilf]) (fun t v ih => k [.iface t v]) (k [.nili]) (fun l _ => k l) (fun _ _ => no 0) (0 : R) (fun _ _ _ _ => (0 : R)) x

/-! ### the heap -/
noncomputable def bOn (id : Nat) (b : Blk) (kc : List V → R) (kb : Nat → Nat → R) : R := Blk.rec (motive := fun _ => R) (no 0) kc kb (fun _ => no 0) (no 0) (fun _ _ _ _ _ _ => no 0) b
noncomputable def bMap (id : Nat) (b : Blk) (km : List (V × V) → R) : R := Blk.rec (motive := fun _ => R) (no 0) (fun _ => no 0) (fun _ _ => no 0) km (no 0) (fun _ _ _ _ _ _ => no 0) b
noncomputable def bLoop (b : Blk) (k : Nat → Nat → Env → List Slot → RC → RC → R) : R := Blk.rec (motive := fun _ => R) (no 9) (fun _ => no 9) (fun _ _ => no 9) (fun _ => no 9) (no 9) k b
noncomputable def hGet (H : Heap) (b : Nat) (k : Blk → R) : R := Heap.rec (motive := fun _ => R) (fun _ _ t => k (HT.get t b)) H
noncomputable def hSet (id : Nat) (H : Heap) (b : Nat) (x : Blk) (k : Heap → R) : R := Heap.rec (motive := fun _ => R) (fun n wlo t => ifB (Nat.blt b n) (HT.set x t b fun t' => ifB (Nat.ble wlo b) (k (.mk n wlo t')) (k (.mk n b t'))) (no 0)) H
noncomputable def hNew (H : Heap) (x : Blk) (k : Nat → Heap → R) : R := Heap.rec (motive := fun _ => R) (fun n wlo t => HT.set x t n fun t' => forceN (Nat.succ n) fun n' => k n (.mk n' wlo t')) H
noncomputable def loadC (id : Nat) (H : Heap) (b off : Nat) (k : V → R) : R := hGet H b fun bl => bOn id bl (fun l => nth id l off k) fun len n => ifB (Nat.blt off len) (forceN (Nat.land (Nat.shiftRight n (Nat.mul 8 off)) 255) fun x => k (.int 4 x)) (no 0)
/-- So many cells. -/
noncomputable def loadN (id : Nat) (H : Heap) (b off n : Nat) (k : List V → R) : R := hGet H b fun bl => bOn id bl (fun l => dropN id l off fun r => takeN id r n k) fun len x => ifB (Nat.ble (Nat.add off n) len) (unpackB n (Nat.shiftRight x (Nat.mul 8 off)) k) (no 0)
/-- So many bytes. -/
noncomputable def loadB (id : Nat) (H : Heap) (b off n : Nat) (k : Nat → R) : R := hGet H b fun bl => bOn id bl (fun l => dropN id l off fun r => takeN id r n fun q => packB id q fun _ x => k x) fun len x => ifB (Nat.ble (Nat.add off n) len) (forceN (Nat.mod (Nat.shiftRight x (Nat.mul 8 off)) (Nat.pow 256 n)) k) (no 0)
/-- These cells are written. -/
noncomputable def storeN (id : Nat) (H : Heap) (b off : Nat) (m : List V) (k : Heap → R) : R := hGet H b fun bl => bOn id bl (fun l => allOne id m (setAt id m l off fun l' => hSet id H b (.cells l') k))
  fun len x => packB id m fun ml mx => ifB (Nat.ble (Nat.add off ml) len)
    (forceN (Nat.add (Nat.mod x (Nat.pow 256 off)) (Nat.shiftLeft (Nat.add mx (Nat.shiftLeft (Nat.shiftRight x (Nat.mul 8 (Nat.add off ml))) (Nat.mul 8 ml))) (Nat.mul 8 off))) fun x' => hSet id H b (.bytes len x') k) (no 0)

/-! ### numbers -/
noncomputable def evBF (id : Nat) (f : BF) : Nat → Nat → (Nat → R) → R := BF.rec (motive := fun _ => Nat → Nat → (Nat → R) → R)
  (fun m a b k => forceN (Nat.mod (Nat.add a b) m) k)
  (fun m a b k => forceN (Nat.mod (Nat.add a (Nat.sub m b)) m) k)
  (fun m a b k => forceN (Nat.mod (Nat.mul a b) m) k)
  (fun a b k => forceN (Nat.land a b) k)
  (fun a b k => forceN (Nat.lor a b) k)
  (fun a b k => forceN (Nat.xor a b) k)
  (fun m a b k => forceN (Nat.land a (Nat.xor b (Nat.pred m))) k)
  (fun m bits a b k => ifB (Nat.ble b bits) (forceN (Nat.mod (Nat.shiftLeft a b) m) k) (ifB (Nat.blt b 4611686018427387904) (k 0) (no 0)))
  (fun half bits a b k => ifB (Nat.blt a half) (ifB (Nat.ble b bits) (forceN (Nat.shiftRight a b) k) (ifB (Nat.blt b 4611686018427387904) (k 0) (no 0))) (no 0))
  (fun half a b k => ifB (Nat.blt a half) (ifB (Nat.blt b half) (ifB (Nat.beq b 0) (no 0) (forceN (Nat.div a b) k)) (no 0)) (no 0))
  (fun half a b k => ifB (Nat.blt a half) (ifB (Nat.blt b half) (ifB (Nat.beq b 0) (no 0) (forceN (Nat.mod a b) k)) (no 0)) (no 0))
  f
noncomputable def evCF (f : CF) : Nat → Nat → Bool := CF.rec (motive := fun _ => Nat → Nat → Bool)
  (fun a b => Nat.beq a b) (fun a b => Bool.rec true false (Nat.beq a b))
  (fun o m a b => Nat.blt (Nat.mod (Nat.add a o) m) (Nat.mod (Nat.add b o) m))
  (fun o m a b => Nat.ble (Nat.mod (Nat.add a o) m) (Nat.mod (Nat.add b o) m))
  (fun o m a b => Nat.blt (Nat.mod (Nat.add b o) m) (Nat.mod (Nat.add a o) m))
  (fun o m a b => Nat.ble (Nat.mod (Nat.add b o) m) (Nat.mod (Nat.add a o) m))
  f

/-! ### operations -/
abbrev K := V → Heap → R
abbrev Phi := V → List V → Heap → K → R
noncomputable def eBad (id : Nat) (ph : Phi) (e : Env) (H : Heap) (k : K) : R := no 0
noncomputable def eMov (x : Arg) (id : Nat) (ph : Phi) (e : Env) (H : Heap) (k : K) : R := getA x e fun v => k v H
noncomputable def ePick (c x y : Arg) (id : Nat) (ph : Phi) (e : Env) (H : Heap) (k : K) : R := getA c e fun c => vBool id c fun b => ifB b (getA x e fun v => k v H) (getA y e fun v => k v H)
noncomputable def eNewC (z : List V) (id : Nat) (ph : Phi) (e : Env) (H : Heap) (k : K) : R := hNew H (.cells z) fun n H => k (.ptr n 0) H
noncomputable def eNewB (n : Nat) (id : Nat) (ph : Phi) (e : Env) (H : Heap) (k : K) : R := hNew H (.bytes n 0) fun n H => k (.ptr n 0) H
noncomputable def eBox (x : Arg) (id : Nat) (ph : Phi) (e : Env) (H : Heap) (k : K) : R := getA x e fun v => vCells id v fun l => allOne id l (hNew H (.cells l) fun n H => k (.ptr n 0) H)
noncomputable def fillL (id : Nat) (e : Env) (parts : List (Nat × Nat × Arg)) : List V → (List V → R) → R := List.rec (motive := fun _ => List V → (List V → R) → R) (fun z k => k z)
  (fun p _ ih z k => Prod.rec (motive := fun _ => R) (fun off q => Prod.rec (motive := fun _ => R) (fun size a => getA a e fun v => vCells id v fun l => ifB (Nat.beq (lenL l) size) (setAt id l z off fun z' => ih z' k) (no 0)) q) p) parts
noncomputable def eBuild (zero : List V) (parts : List (Nat × Nat × Arg)) (id : Nat) (ph : Phi) (e : Env) (H : Heap) (k : K) : R := fillL id e parts zero fun l => k (.agg l) H
noncomputable def eBslice (u8 : Bool) (len : Nat) (zero : List V) (parts : List (Nat × Nat × Arg)) (id : Nat) (ph : Phi) (e : Env) (H : Heap) (k : K) : R :=
  fillL id e parts zero fun l => ifB u8 (packB id l fun ln n => hNew H (.bytes ln n) fun b H => k (.slice b 0 len (Nat.succ len) 0) H) (allOne id l (hNew H (.cells l) fun b H => k (.slice b 0 len (Nat.succ len) 0) H))
noncomputable def eLoad1 (a : Arg) (id : Nat) (ph : Phi) (e : Env) (H : Heap) (k : K) : R := getA a e fun a => vPtr id a fun b o => loadC id H b o fun v => k v H
noncomputable def eLoadA (n : Nat) (a : Arg) (id : Nat) (ph : Phi) (e : Env) (H : Heap) (k : K) : R := getA a e fun a => vPtr id a fun b o => loadN id H b o n fun l => k (.agg l) H
noncomputable def eStore1 (a x : Arg) (id : Nat) (ph : Phi) (e : Env) (H : Heap) (k : K) : R := getA a e fun a => vPtr id a fun b o => getA x e fun x => isOne id x (storeN id H b o [x] fun H => k (.tup []) H)
noncomputable def eStoreA (n : Nat) (a x : Arg) (id : Nat) (ph : Phi) (e : Env) (H : Heap) (k : K) : R := getA a e fun a => vPtr id a fun b o => getA x e fun x => vAgg id x fun l => ifB (Nat.beq (lenL l) n) (storeN id H b o l fun H => k (.tup []) H) (no 0)
noncomputable def eNilc (x : Arg) (id : Nat) (ph : Phi) (e : Env) (H : Heap) (k : K) : R := getA x e fun v => V.rec (motive_1 := fun _ => R) (motive_2 := fun _ => R) (fun kd n => k (.int kd n) H) (fun b => k (.bool b) H) (fun l n => k (.str l n) H) (fun b o => k (.ptr b o) H) (no 0) (fun b o l c s => k (.slice b o l c s) H) (k .nils H) (fun b => k (.map b) H) (k .nilm H) (fun f l ih => k (.func f l) H) (fun b => k (.yld b) H) (no 0) (fun t v ih => k (.iface t v) H) (no 0) (fun l ih => k (.agg l) H) (fun l ih => k (.tup l) H) (0 : R) (fun _ _ _ _ => (0 : R)) v
noncomputable def eBin (kd ky : Nat) (f : BF) (x y : Arg) (id : Nat) (ph : Phi) (e : Env) (H : Heap) (k : K) : R := getA x e fun x => vInt id x fun k1 a => getA y e fun y => vInt id y fun k2 b => ifB (Nat.beq k1 kd) (ifB (Nat.beq k2 ky) (evBF id f a b fun r => k (.int kd r) H) (no 0)) (no 0)
noncomputable def eCmp (kd : Nat) (f : CF) (x y : Arg) (id : Nat) (ph : Phi) (e : Env) (H : Heap) (k : K) : R := getA x e fun x => vInt id x fun k1 a => getA y e fun y => vInt id y fun k2 b => ifB (Nat.beq k1 kd) (ifB (Nat.beq k2 kd) (ifB (evCF f a b) (k (.bool true) H) (k (.bool false) H)) (no 0)) (no 0)
noncomputable def eSadd (x y : Arg) (id : Nat) (ph : Phi) (e : Env) (H : Heap) (k : K) : R := getA x e fun x => vStr id x fun l1 n1 => getA y e fun y => vStr id y fun l2 n2 => forceN (Nat.add l1 l2) fun l => ifB (Nat.blt l 4611686018427387904) (forceN (Nat.add n1 (Nat.shiftLeft n2 (Nat.mul 8 l1))) fun n => k (.str l n) H) (no 0)
noncomputable def eScmp (neg : Bool) (x y : Arg) (id : Nat) (ph : Phi) (e : Env) (H : Heap) (k : K) : R := getA x e fun x => vStr id x fun l1 n1 => getA y e fun y => vStr id y fun l2 n2 => ifB (Nat.beq l1 l2) (ifB (Nat.beq n1 n2) (ifB neg (k (.bool false) H) (k (.bool true) H)) (k (.bool neg) H)) (k (.bool neg) H)
/-- Two values, of which one is nil; two bools. tens: the kind; 0: nil, 1: not nil; 2: true, 3: false. -/
noncomputable def nilly (id : Nat) (x : V) (k : Nat → R) : R := V.rec (motive_1 := fun _ => R) (motive_2 := fun _ => R) (fun _ _ => no 0) (fun b => ifB b (k 2) (k 3)) (fun _ _ => no 0) (fun _ _ => k 11) (k 10) (fun _ _ _ _ _ => k 21) (k 20) (fun _ => k 31) (k 30) (fun _ _ _ => k 41) (fun _ => no 0) (k 40) (fun _ _ _ => k 51) (k 50) (fun _ _ => no 0) (fun _ _ => no 0) (0 : R) (fun _ _ _ _ => (0 : R)) x
noncomputable def eEqv (kc : Nat) (neg : Bool) (x y : Arg) (id : Nat) (ph : Phi) (e : Env) (H : Heap) (k : K) : R := getA x e fun x => nilly id x fun a => getA y e fun y => nilly id y fun b => ifB (Nat.beq (Nat.div a 10) kc) (ifB (Nat.beq (Nat.div b 10) kc) (ifB (Nat.beq a b) (ifB (Nat.beq (Nat.mod a 10) 1) (no 0) (ifB neg (k (.bool false) H) (k (.bool true) H))) (k (.bool neg) H)) (no 0)) (no 0)
noncomputable def eLnot (x : Arg) (id : Nat) (ph : Phi) (e : Env) (H : Heap) (k : K) : R := getA x e fun x => vBool id x fun b => ifB b (k (.bool false) H) (k (.bool true) H)
/-- mode 0: modulo c; mode c+1 .. : see the compiler. -/
noncomputable def eConvI (src dst mode c : Nat) (x : Arg) (id : Nat) (ph : Phi) (e : Env) (H : Heap) (k : K) : R := getA x e fun x => vInt id x fun k1 a => ifB (Nat.beq k1 src) (Nat.rec (motive := fun _ => R) (forceN (Nat.mod a c) fun r => k (.int dst r) H) (fun _ _ => ifB (Nat.blt a mode) (k (.int dst a) H) (forceN (Nat.add a c) fun r => k (.int dst r) H)) mode) (no 0)
noncomputable def eConvB2S (x : Arg) (id : Nat) (ph : Phi) (e : Env) (H : Heap) (k : K) : R := getA x e fun x => vSliceN id x (fun b o l _ _ => loadB id H b o l fun n => k (.str l n) H) (k (.str 0 0) H)
noncomputable def eConvS2B (x : Arg) (id : Nat) (ph : Phi) (e : Env) (H : Heap) (k : K) : R := getA x e fun x => vStr id x fun l n => ifB (Nat.ble l 16777216) (hNew H (.bytes l n) fun b H => k (.slice b 0 l 0 1) H) (no 0)
noncomputable def eMkI (t : Nat) (x : Arg) (id : Nat) (ph : Phi) (e : Env) (H : Heap) (k : K) : R := getA x e fun v => k (.iface t v) H
noncomputable def eMkF (f : Nat) (caps : List Arg) (id : Nat) (ph : Phi) (e : Env) (H : Heap) (k : K) : R := getAs caps e fun l => k (.func f l) H
noncomputable def eMkMap (id : Nat) (ph : Phi) (e : Env) (H : Heap) (k : K) : R := hNew H (.map []) fun b H => k (.map b) H
noncomputable def eMkSlice (u8 : Bool) (zero : List V) (l c : Arg) (id : Nat) (ph : Phi) (e : Env) (H : Heap) (k : K) : R := getA l e fun l => vInt id l fun kl l => getA c e fun c => vInt id c fun kc c => ifB (Nat.ble 3 kl) (ifB (Nat.ble 3 kc) (ifB (Nat.ble l c) (ifB (Nat.ble c 16777216)
  (ifB u8 (hNew H (.bytes c 0) fun b H => forceN (Nat.succ c) fun c1 => k (.slice b 0 l c1 0) H) (repL zero c fun r => allOne id r (hNew H (.cells r) fun b H => forceN (Nat.succ c) fun c1 => k (.slice b 0 l c1 0) H))) (no 0)) (no 0)) (no 0)) (no 0)
/-- A bound: an int of Go's int kind that is small, or what stands for none. -/
noncomputable def bnd (id : Nat) (x : Option Arg) (e : Env) (d : Nat) (k : Nat → R) : R := Option.rec (motive := fun _ => R) (k d) (fun a => getA a e fun v => vInt id v fun kd n => ifB (Nat.ble 3 kd) (ifB (Nat.blt n 4611686018427387904) (k n) (no 0)) (no 0)) x
noncomputable def eSlS (x : Arg) (lo hi : Option Arg) (id : Nat) (ph : Phi) (e : Env) (H : Heap) (k : K) : R := getA x e fun x => vStr id x fun len n => bnd id hi e len fun h => bnd id lo e 0 fun l => ifB (Nat.ble l h) (ifB (Nat.ble h len) (forceN (Nat.sub h l) fun d => forceN (Nat.mod (Nat.shiftRight n (Nat.mul 8 l)) (Nat.pow 256 d)) fun r => k (.str d r) H) (no 0)) (no 0)
noncomputable def eSlV (size : Nat) (x : Arg) (lo hi mx : Option Arg) (id : Nat) (ph : Phi) (e : Env) (H : Heap) (k : K) : R := getA x e fun x => vSliceN id x (fun b o len cp sz =>
    bnd id lo e 0 fun l => bnd id hi e len fun h => ifB (Nat.ble l h) (forceN (Nat.sub h l) fun d =>
      Option.rec (motive := fun _ => R)
        (Nat.rec (motive := fun _ => R)
          (ifB (Nat.ble h len) (ifB (Nat.beq sz size) (forceN (Nat.add o (Nat.mul l size)) fun o' => k (.slice b o' d 0 sz) H) (no 0)) (no 0))
          (fun q _ => ifB (Nat.ble h q) (ifB (Nat.beq q l) (k (.slice b o d 1 0) H) (forceN (Nat.add o (Nat.mul l size)) fun o' => forceN (Nat.succ (Nat.sub q l)) fun c' => k (.slice b o' d c' 0) H)) (no 0)) cp)
        (fun m => bnd id (some m) e 0 fun m => ifB (Nat.ble h m) (ifB (Nat.ble m (Nat.rec (motive := fun _ => Nat) len (fun q _ => q) cp)) (ifB (Nat.beq m l) (k (.slice b o d 1 0) H) (forceN (Nat.add o (Nat.mul l size)) fun o' => forceN (Nat.succ (Nat.sub m l)) fun c' => k (.slice b o' d c' 0) H)) (no 0)) (no 0)) mx) (no 0))
  (bnd id lo e 0 fun l => bnd id hi e 0 fun h => bnd id mx e 0 fun m => ifB (Nat.beq l 0) (ifB (Nat.beq h 0) (ifB (Nat.beq m 0) (k .nils H) (no 0)) (no 0)) (no 0))
noncomputable def eSlA (n size : Nat) (x : Arg) (lo hi mx : Option Arg) (id : Nat) (ph : Phi) (e : Env) (H : Heap) (k : K) : R := getA x e fun x => vPtr id x fun b o => bnd id mx e n fun m => bnd id hi e n fun h => bnd id lo e 0 fun l => ifB (Nat.ble l h) (ifB (Nat.ble h m) (ifB (Nat.ble m n) (forceN (Nat.sub h l) fun d => ifB (Nat.beq m l) (k (.slice b o d 1 0) H) (forceN (Nat.add o (Nat.mul l size)) fun o' => forceN (Nat.succ (Nat.sub m l)) fun c' => k (.slice b o' d c' 0) H)) (no 0)) (no 0)) (no 0)
noncomputable def eFadd (off : Nat) (x : Arg) (id : Nat) (ph : Phi) (e : Env) (H : Heap) (k : K) : R := getA x e fun x => vPtr id x fun b o => forceN (Nat.add o off) fun o' => k (.ptr b o') H
noncomputable def eFld1 (off : Nat) (x : Arg) (id : Nat) (ph : Phi) (e : Env) (H : Heap) (k : K) : R := getA x e fun x => vAgg id x fun l => nth id l off fun v => k v H
noncomputable def eFldA (off n : Nat) (x : Arg) (id : Nat) (ph : Phi) (e : Env) (H : Heap) (k : K) : R := getA x e fun x => vAgg id x fun l => dropN id l off fun r => takeN id r n fun q => k (.agg q) H
noncomputable def idx (id : Nat) (i : Arg) (e : Env) (len : Nat) (k : Nat → R) : R := getA i e fun v => vInt id v fun kd n => ifB (Nat.ble 3 kd) (ifB (Nat.blt n len) (ifB (Nat.blt n 4611686018427387904) (k n) (no 0)) (no 0)) (no 0)
noncomputable def eIxA (len size : Nat) (x i : Arg) (id : Nat) (ph : Phi) (e : Env) (H : Heap) (k : K) : R := getA x e fun x => vPtr id x fun b o => idx id i e len fun n => forceN (Nat.add o (Nat.mul n size)) fun o' => k (.ptr b o') H
noncomputable def eIxV (size : Nat) (x i : Arg) (id : Nat) (ph : Phi) (e : Env) (H : Heap) (k : K) : R := getA x e fun x => vSlice id x fun b o len _ _ => idx id i e len fun n => forceN (Nat.add o (Nat.mul n size)) fun o' => k (.ptr b o') H
noncomputable def eIxS (x i : Arg) (id : Nat) (ph : Phi) (e : Env) (H : Heap) (k : K) : R := getA x e fun x => vStr id x fun len m => idx id i e len fun n => forceN (Nat.land (Nat.shiftRight m (Nat.mul 8 n)) 255) fun r => k (.int 4 r) H
noncomputable def eIxG (len size : Nat) (agg : Bool) (x i : Arg) (id : Nat) (ph : Phi) (e : Env) (H : Heap) (k : K) : R := getA x e fun x => vAgg id x fun l => idx id i e len fun n => ifB agg (dropN id l (Nat.mul n size) fun r => takeN id r size fun q => k (.agg q) H) (nth id l (Nat.mul n size) fun v => k v H)
/-- Keys: texts, integers. -/
noncomputable def keyEq (id : Nat) (ks : Bool) (x y : V) (k : Bool → R) : R := V.rec (motive_1 := fun _ => R) (motive_2 := fun _ => R) (fun k1 a => vInt id y fun k2 b => ifB ks (no 0) (ifB (Nat.beq k1 k2) (k (Nat.beq a b)) (no 0))) (fun _ => no 0) (fun l1 a => vStr id y fun l2 b => ifB ks (ifB (Nat.beq l1 l2) (k (Nat.beq a b)) (k false)) (no 0)) (fun _ _ => no 0) (no 0) (fun _ _ _ _ _ => no 0) (no 0) (fun _ => no 0) (no 0) (fun _ _ _ => no 0) (fun _ => no 0) (no 0) (fun _ _ _ => no 0) (no 0) (fun _ _ => no 0) (fun _ _ => no 0) (0 : R) (fun _ _ _ _ => (0 : R)) x
noncomputable def lookL (id : Nat) (ks : Bool) (es : List (V × V)) (x : V) (f : V → R) (z : R) : R := List.rec (motive := fun _ => R) z (fun p _ ih => Prod.rec (motive := fun _ => R) (fun a v => keyEq id ks x a fun b => ifB b (f v) ih) p) es
noncomputable def setL (id : Nat) (ks : Bool) (es : List (V × V)) (x y : V) : (List (V × V) → R) → R := List.rec (motive := fun _ => (List (V × V) → R) → R) (fun k => k [(x, y)]) (fun p l ih k => Prod.rec (motive := fun _ => R) (fun a v => keyEq id ks x a fun b => ifB b (k ((a, y) :: l)) (ih fun r => k ((a, v) :: r))) p) es
noncomputable def delL (id : Nat) (ks : Bool) (es : List (V × V)) (x : V) : (List (V × V) → R) → R := List.rec (motive := fun _ => (List (V × V) → R) → R) (fun k => k []) (fun p l ih k => Prod.rec (motive := fun _ => R) (fun a v => keyEq id ks x a fun b => ifB b (k l) (ih fun r => k ((a, v) :: r))) p) es
noncomputable def eLook (ks : Bool) (zero : V) (ok : Bool) (m x : Arg) (id : Nat) (ph : Phi) (e : Env) (H : Heap) (k : K) : R := getA m e fun m => getA x e fun x =>
  vMapN id m (fun b => hGet H b fun bl => bMap id bl fun es => lookL id ks es x (fun v => ifB ok (k (.tup [v, .bool true]) H) (k v H)) (ifB ok (k (.tup [zero, .bool false]) H) (k zero H))) (ifB ok (k (.tup [zero, .bool false]) H) (k zero H))
noncomputable def isKey (id : Nat) (x : V) (k : R) : R := V.rec (motive_1 := fun _ => R) (motive_2 := fun _ => R) (fun _ _ => k) (fun _ => no 0) (fun _ _ => k) (fun _ _ => no 0) (no 0) (fun _ _ _ _ _ => no 0) (no 0) (fun _ => no 0) (no 0) (fun _ _ _ => no 0) (fun _ => no 0) (no 0) (fun _ _ _ => no 0) (no 0) (fun _ _ => no 0) (fun _ _ => no 0) (0 : R) (fun _ _ _ _ => (0 : R)) x
noncomputable def eMset (ks : Bool) (m x y : Arg) (id : Nat) (ph : Phi) (e : Env) (H : Heap) (k : K) : R := getA m e fun m => getA x e fun x => getA y e fun y => vMap id m fun b => hGet H b fun bl => bMap id bl fun es => isKey id x (setL id ks es x y fun es' => hSet id H b (.map es') fun H => k (.tup []) H)
noncomputable def eMdel (ks : Bool) (m x : Arg) (id : Nat) (ph : Phi) (e : Env) (H : Heap) (k : K) : R := getA m e fun m => getA x e fun x => vMap id m fun b => hGet H b fun bl => bMap id bl fun es => delL id ks es x fun es' => hSet id H b (.map es') fun H => k (.tup []) H
noncomputable def eExtr (x : Arg) (i : Nat) (id : Nat) (ph : Phi) (e : Env) (H : Heap) (k : K) : R := getA x e fun x => vTup id x fun l => nth id l i fun v => k v H
noncomputable def eCall (f : Nat) (args : List Arg) (id : Nat) (ph : Phi) (e : Env) (H : Heap) (k : K) : R := getAs args e fun l => ph (.func f []) l H k
noncomputable def eCallV (x : Arg) (args : List Arg) (id : Nat) (ph : Phi) (e : Env) (H : Heap) (k : K) : R := getA x e fun x => getAs args e fun l => ph x l H k
/-- What is appended: its length, and its cells, as bytes or as cells. -/
noncomputable def newCells (id : Nat) (size : Nat) (H : Heap) (x : V) (k : Nat → List V → R) : R := V.rec (motive_1 := fun _ => R) (motive_2 := fun _ => R) (fun _ _ => no 0) (fun _ => no 0) (fun l n => ifB (Nat.beq size 1) (unpackB l n fun m => k l m) (no 0)) (fun _ _ => no 0) (no 0) (fun b o l _ _ => loadN id H b o (Nat.mul l size) fun m => k l m) (k 0 []) (fun _ => no 0) (no 0) (fun _ _ _ => no 0) (fun _ => no 0) (no 0) (fun _ _ _ => no 0) (no 0) (fun _ _ => no 0) (fun _ _ => no 0) (0 : R) (fun _ _ _ _ => (0 : R)) x
noncomputable def newBytes (id : Nat) (H : Heap) (x : V) (k : Nat → Nat → R) : R := V.rec (motive_1 := fun _ => R) (motive_2 := fun _ => R) (fun _ _ => no 0) (fun _ => no 0) (fun l n => k l n) (fun _ _ => no 0) (no 0) (fun b o l _ _ => loadB id H b o l fun m => k l m) (k 0 0) (fun _ => no 0) (no 0) (fun _ _ _ => no 0) (fun _ => no 0) (no 0) (fun _ _ _ => no 0) (no 0) (fun _ _ => no 0) (fun _ _ => no 0) (0 : R) (fun _ _ _ _ => (0 : R)) x
noncomputable def appC (id size : Nat) (n : Nat) (new : List V) (b o len cp sz : Nat) (H : Heap) (k : K) : R := allOne id new (forceN (Nat.add len n) fun need => ifB (Nat.ble need 1073741824) (
    Nat.rec (motive := fun _ => R)
      (ifB (Nat.beq sz size) (ifB (Nat.beq o 0) (hGet H b fun bl => bOn id bl (fun l => ifB (Nat.beq (lenL l) (Nat.mul len size)) (appL l new fun l' => hSet id H b .dead fun H => hNew H (.cells l') fun b' H => k (.slice b' 0 need 0 size) H) (no 0)) (fun _ _ => no 0)) (no 0)) (no 0))
      (fun q _ => ifB (Nat.ble need q) (storeN id H b (Nat.add o (Nat.mul len size)) new fun H => k (.slice b o need cp sz) H) (loadN id H b o (Nat.mul len size) fun l => allOne id l (appL l new fun l' => hNew H (.cells l') fun b' H => k (.slice b' 0 need 0 size) H))) cp) (no 0))
noncomputable def eAppC (size : Nat) (s x : Arg) (id : Nat) (e : Env) (H : Heap) (k : K) : R := getA s e fun s => getA x e fun x => newCells id size H x fun n new =>
  vSliceN id s (fun b o len cp sz => Nat.rec (motive := fun _ => R) (k s H) (fun _ _ => appC id size n new b o len cp sz H k) n)
    (Nat.rec (motive := fun _ => R) (k s H) (fun _ _ => allOne id new (ifB (Nat.ble n 1073741824) (hNew H (.cells new) fun b' H => k (.slice b' 0 n 0 size) H) (no 0))) n)
noncomputable def appB (id : Nat) (n new : Nat) (b o len cp sz : Nat) (H : Heap) (k : K) : R := forceN (Nat.add len n) fun need => ifB (Nat.ble need 1073741824) (
    Nat.rec (motive := fun _ => R)
      (ifB (Nat.beq sz 1) (ifB (Nat.beq o 0) (hGet H b fun bl => bOn id bl (fun _ => no 0) (fun ln m => ifB (Nat.beq ln len) (forceN (Nat.add m (Nat.shiftLeft new (Nat.mul 8 len))) fun m' => hSet id H b .dead fun H => hNew H (.bytes need m') fun b' H => k (.slice b' 0 need 0 1) H) (no 0))) (no 0)) (no 0))
      (fun q _ => ifB (Nat.ble need q) (no 0) (loadB id H b o len fun m => forceN (Nat.add m (Nat.shiftLeft new (Nat.mul 8 len))) fun m' => hNew H (.bytes need m') fun b' H => k (.slice b' 0 need 0 1) H)) cp) (no 0)
noncomputable def eAppB (s x : Arg) (id : Nat) (e : Env) (H : Heap) (k : K) : R := getA s e fun s => getA x e fun x => newBytes id H x fun n new =>
  vSliceN id s (fun b o len cp sz => Nat.rec (motive := fun _ => R) (k s H) (fun _ _ => appB id n new b o len cp sz H k) n)
    (Nat.rec (motive := fun _ => R) (k s H) (fun _ _ => ifB (Nat.ble n 1073741824) (hNew H (.bytes n new) fun b' H => k (.slice b' 0 n 0 1) H) (no 0)) n)
noncomputable def eApp (u8 : Bool) (size : Nat) (s x : Arg) (id : Nat) (ph : Phi) (e : Env) (H : Heap) (k : K) : R := ifB u8 (eAppB s x id e H k) (eAppC size s x id e H k)
noncomputable def lenSL (id : Nat) (x : V) (k : Nat → R) : R := V.rec (motive_1 := fun _ => R) (motive_2 := fun _ => R) (fun _ _ => no 0) (fun _ => no 0) (fun l _ => k l) (fun _ _ => no 0) (no 0) (fun _ _ l _ _ => k l) (k 0) (fun _ => no 0) (no 0) (fun _ _ _ => no 0) (fun _ => no 0) (no 0) (fun _ _ _ => no 0) (no 0) (fun _ _ => no 0) (fun _ _ => no 0) (0 : R) (fun _ _ _ _ => (0 : R)) x
noncomputable def minN (a b : Nat) (k : Nat → R) : R := ifB (Nat.ble a b) (k a) (k b)
noncomputable def lenR (id n : Nat) (H : Heap) (k : K) : R := ifB (Nat.blt n 4611686018427387904) (k (.int 3 n) H) (no 0)
noncomputable def eCopy (size : Nat) (d s : Arg) (id : Nat) (ph : Phi) (e : Env) (H : Heap) (k : K) : R := getA d e fun d => getA s e fun s => vSliceN id d (fun b o dl _ _ => lenSL id s fun sl => minN sl dl fun n => newCells id size H s fun _ l => takeN id l (Nat.mul n size) fun m => Nat.rec (motive := fun _ => R) (k (.int 3 0) H) (fun _ _ => storeN id H b o m fun H => lenR id n H k) n) (newCells id size H s fun _ _ => k (.int 3 0) H)
noncomputable def eLenS (x : Arg) (id : Nat) (ph : Phi) (e : Env) (H : Heap) (k : K) : R := getA x e fun x => vStr id x fun n _ => lenR id n H k
noncomputable def eLenL (x : Arg) (id : Nat) (ph : Phi) (e : Env) (H : Heap) (k : K) : R := getA x e fun x => vSliceN id x (fun _ _ n _ _ => lenR id n H k) (lenR id 0 H k)
noncomputable def lenM (es : List (V × V)) : Nat := List.rec (motive := fun _ => Nat) 0 (fun _ _ ih => Nat.succ ih) es
noncomputable def eLenM (x : Arg) (id : Nat) (ph : Phi) (e : Env) (H : Heap) (k : K) : R := getA x e fun x => vMapN id x (fun b => hGet H b fun bl => bMap id bl fun es => forceN (lenM es) fun n => lenR id n H k) (lenR id 0 H k)
noncomputable def eCap (x : Arg) (id : Nat) (ph : Phi) (e : Env) (H : Heap) (k : K) : R := getA x e fun x => vSliceN id x (fun _ _ _ cp _ => Nat.rec (motive := fun _ => R) (no 0) (fun q _ => ifB (Nat.blt q 4611686018427387904) (k (.int 3 q) H) (no 0)) cp) (k (.int 3 0) H)
noncomputable def eMm (kd o m : Nat) (mx : Bool) (x y : Arg) (id : Nat) (ph : Phi) (e : Env) (H : Heap) (k : K) : R := getA x e fun x => vInt id x fun k1 a => getA y e fun y => vInt id y fun k2 b => ifB (Nat.beq k1 kd) (ifB (Nat.beq k2 kd) (ifB (Nat.ble (Nat.mod (Nat.add a o) m) (Nat.mod (Nat.add b o) m)) (ifB mx (k (.int kd b) H) (k (.int kd a) H)) (ifB mx (k (.int kd a) H) (k (.int kd b) H))) (no 0)) (no 0)
noncomputable def pick2 (o m : Nat) (mx : Bool) (a b : Nat) (k : Nat → R) : R := ifB (Nat.ble (Nat.mod (Nat.add a o) m) (Nat.mod (Nat.add b o) m)) (ifB mx (k b) (k a)) (ifB mx (k a) (k b))
noncomputable def eMm3 (kd o m : Nat) (mx : Bool) (x y z : Arg) (id : Nat) (ph : Phi) (e : Env) (H : Heap) (k : K) : R := getA x e fun x => vInt id x fun k1 a => getA y e fun y => vInt id y fun k2 b => getA z e fun z => vInt id z fun k3 c => ifB (Nat.beq k1 kd) (ifB (Nat.beq k2 kd) (ifB (Nat.beq k3 kd) (pick2 o m mx a b fun r => pick2 o m mx r c fun q => k (.int kd q) H) (no 0)) (no 0)) (no 0)

noncomputable def leafEq (id : Nat) (c : Nat) (x y : V) (k : Bool → R) : R := Nat.rec (motive := fun _ => R)
  (vBool id x fun a => vBool id y fun b => ifB a (k b) (ifB b (k false) (k true)))
  (fun c' _ => Nat.rec (motive := fun _ => R) (vInt id x fun k1 a => vInt id y fun k2 b => ifB (Nat.beq k1 k2) (k (Nat.beq a b)) (no 0))
    (fun _ _ => vStr id x fun l1 a => vStr id y fun l2 b => ifB (Nat.beq l1 l2) (k (Nat.beq a b)) (k false)) c') c
noncomputable def lenNs (l : List Nat) : Nat := List.rec (motive := fun _ => Nat) 0 (fun _ _ ih => Nat.succ ih) l
noncomputable def eqCs (id : Nat) (cls : List Nat) : List V → List V → (Bool → R) → R := List.rec (motive := fun _ => List V → List V → (Bool → R) → R) (fun _ _ k => k true)
  (fun c _ ih l m k => List.rec (motive := fun _ => R) (no 0) (fun a l' _ => List.rec (motive := fun _ => R) (no 0) (fun b m' _ => leafEq id c a b fun r => ifB r (ih l' m' k) (k false)) m) l) cls
noncomputable def eAggEq (cls : List Nat) (neg : Bool) (x y : Arg) (id : Nat) (ph : Phi) (e : Env) (H : Heap) (k : K) : R := getA x e fun x => vAgg id x fun l => getA y e fun y => vAgg id y fun m => ifB (Nat.beq (lenL l) (lenNs cls)) (ifB (Nat.beq (lenL m) (lenNs cls)) (eqCs id cls l m fun b => ifB b (ifB neg (k (.bool false) H) (k (.bool true) H)) (k (.bool neg) H)) (no 0)) (no 0)

noncomputable def evOp (o : OpE) : Nat → Phi → Env → Heap → K → R := OpE.rec (motive := fun _ => Nat → Phi → Env → Heap → K → R)
  eBad eMov ePick eNewC eNewB eBox eBuild eBslice eLoad1 eLoadA eStore1 eStoreA eNilc eBin eCmp eSadd eScmp eEqv eLnot eConvI eConvB2S eConvS2B eMkI eMkF eMkMap eMkSlice eSlS eSlV eSlA eFadd eFld1 eFldA eIxA eIxV eIxS eIxG eLook eMset eMdel eExtr eCall eCallV eApp eCopy eLenS eLenL eLenM eCap eMm eAggEq eMm3 o

/-! ### regions and code -/
noncomputable def setD (d : Option Slot) (v : V) (e : Env) (k : Env → R) : R := Option.rec (motive := fun _ => R) (k e) (fun s => setS s v e k) d
/-- Is this a bool that is so? Anything else: no. -/
noncomputable def isB (x : V) (want : Bool) (t f : R) : R := V.rec (motive_1 := fun _ => R) (motive_2 := fun _ => R) (fun _ _ => f) (fun b => Bool.rec (motive := fun _ => R) (ifB want f t) (ifB want t f) b) (fun _ _ => f) (fun _ _ => f) (f) (fun _ _ _ _ _ => f) (f) (fun _ => f) (f) (fun _ _ _ => f) (fun _ => f) (f) (fun _ _ _ => f) (f) (fun _ _ => f) (fun _ _ => f) (0 : R) (fun _ _ _ _ => (0 : R)) x
noncomputable def wantG (g : Option (Slot × Bool)) (e : Env) (t f : R) : R := Option.rec (motive := fun _ => R) t (fun p => Prod.rec (motive := fun _ => R) (fun s b => getS s e fun v => isB v b t f) p) g
noncomputable def evReg (ph : Phi) (l : List OpW) : Env → Heap → (Env → Heap → R) → R := List.rec (motive := fun _ => Env → Heap → (Env → Heap → R) → R) (fun e H k => k e H)
  (fun o _ ih e H k => OpW.rec (motive := fun _ => R) (fun id d g _ op => wantG g e (evOp op id ph e H fun v H' => setD d v e fun e' => ih e' H' k) (setD d (.tup []) e fun e' => ih e' H k)) o) l
/-- In a region that draws its order: an operation of class 1 must write no block that was there when it began. -/
noncomputable def evDreg (ph : Phi) (l : List OpW) : Env → Heap → (Env → Heap → R) → R := List.rec (motive := fun _ => Env → Heap → (Env → Heap → R) → R) (fun e H k => k e H)
  (fun o _ ih e H k => OpW.rec (motive := fun _ => R) (fun id d g cls op => wantG g e
    (Nat.rec (motive := fun _ => R)
      (evOp op id ph e H fun v H' => setD d v e fun e' => ih e' H' k)
      (fun _ _ => Heap.rec (motive := fun _ => R) (fun n wlo t => evOp op id ph e (.mk n n t) fun v H' => Heap.rec (motive := fun _ => R) (fun n' wlo' t' => ifB (Nat.ble n wlo') (setD d v e fun e' => ih e' (.mk n' wlo t') k) (no 0)) H') H) cls)
    (setD d (.tup []) e fun e' => ih e' H k)) o) l
abbrev KE := Env → Heap → R
/-- The block of an address, or of a slice. -/
noncomputable def adBlk (id : Nat) (x : V) (k : Option Nat → R) : R := V.rec (motive_1 := fun _ => R) (motive_2 := fun _ => R) (fun _ _ => no 0) (fun _ => no 0) (fun _ _ => no 0) (fun b _ => k (some b)) (no 0) (fun b _ _ _ _ => k (some b)) (k none) (fun _ => no 0) (no 0) (fun _ _ _ => no 0) (fun _ => no 0) (no 0) (fun _ _ _ => no 0) (no 0) (fun _ _ => no 0) (fun _ _ => no 0) (0 : R) (fun _ _ _ _ => (0 : R)) x
/-- Apart from all of these that are not ahead of it. -/
noncomputable def apartN (id bf b : Nat) (l : List (Nat × Nat)) (k : R) : R := List.rec (motive := fun _ => R) k (fun p _ ih => Prod.rec (motive := fun _ => R) (fun i' b' => ifB (Nat.testBit bf i') ih (ifB (Nat.beq b b') (no 0) ih)) p) l
noncomputable def evFreg (ph : Phi) (n0 : Nat) (l : List OpW2) : Env → Heap → List (Nat × Nat) → List (Nat × Nat) → (Env → Heap → R) → R := List.rec (motive := fun _ => Env → Heap → List (Nat × Nat) → List (Nat × Nat) → (Env → Heap → R) → R) (fun e H _ _ k => k e H)
  (fun o _ ih e H fl st k => OpW2.rec (motive := fun _ => R) (fun id d g tag i bf ad op => wantG g e
    (Nat.rec (motive := fun _ => R)
      (evOp op id ph e H fun v H' => setD d v e fun e' => ih e' H' fl st k)
      (fun t1 _ => Nat.rec (motive := fun _ => R)
        (Heap.rec (motive := fun _ => R) (fun n wlo t => evOp op id ph e (.mk n n t) fun v H' => Heap.rec (motive := fun _ => R) (fun n' wlo' t' => ifB (Nat.ble n wlo') (setD d v e fun e' => ih e' (.mk n' wlo t') fl st k) (no 0)) H') H)
        (fun t2 _ => getA ad e fun a => adBlk id a fun ob => Nat.rec (motive := fun _ => R)
          (Option.rec (motive := fun _ => R) (no 0) (fun b => ifB (Nat.blt b n0) (apartN id bf b st (evOp op id ph e H fun v H' => setD d v e fun e' => ih e' H ((i, b) :: fl) st k)) (no 0)) ob)
          (fun _ _ => Option.rec (motive := fun _ => R) (evOp op id ph e H fun v H' => setD d v e fun e' => ih e' H' fl st k)
            (fun b => apartN id bf b fl (evOp op id ph e H fun v H' => setD d v e fun e' => ih e' H' fl ((i, b) :: st) k)) ob) t2) t1) tag)
    (setD d (.tup []) e fun e' => ih e' H fl st k)) o) l
/-- kx: 0: return; n + 1: exit n. -/
noncomputable def evC (c : CodeE) : Nat → Phi → Env → Heap → KE → (Nat → KE) → R := CodeE.rec (motive := fun _ => Nat → Phi → Env → Heap → KE → (Nat → KE) → R)
  (fun _ _ _ _ _ _ => no 8)
  (fun _ _ e H kn _ => kn e H)
  (fun ops _ ph e H kn _ => evReg ph ops e H kn)
  (fun ops _ ph e H kn _ => evDreg ph ops e H kn)
  (fun ops _ ph e H kn _ => Heap.rec (motive := fun _ => R) (fun n _ _ => evFreg ph n ops e H [] [] kn) H)
  (fun _ _ iha ihb fuel ph e H kn kx => iha fuel ph e H (fun e H => ihb fuel ph e H kn kx) kx)
  (fun c _ _ iha ihb fuel ph e H kn kx => getA c e fun v => vBool 0 v fun b => ifB b (iha fuel ph e H kn kx) (ihb fuel ph e H kn kx))
  (fun id _ iha fuel ph e H kn kx => iha fuel ph e H kn fun n e H => ifB (Nat.beq n (Nat.succ id)) (kn e H) (kx n e H))
  (fun _ iha fuel ph e H _ kx => Nat.rec (motive := fun _ => Env → Heap → R) (fun _ _ => no 3) (fun _ ih e H => iha fuel ph e H ih kx) fuel e H)
  (fun id _ _ e H _ kx => kx (Nat.succ id) e H)
  (fun _ _ e H _ kx => kx 0 e H)
  (fun g ps assign body _ ph e H kn kx => getA g e fun g => vFunc 0 g fun f caps => Nat.rec (motive := fun _ => R) (hNew H .mark fun _ H => hNew H (.loop 0 0 e ps assign body) fun b H => ph (.func f caps) [.yld b] H fun _ H =>
    hGet H b fun bl => bLoop bl fun st j e' ps' as' bo' => Nat.rec (motive := fun _ => R) (hSet 0 H b (.loop 3 j e' ps' as' bo') fun H => Nat.rec (motive := fun _ => R) (kn e H) (fun m _ => kx m e H) j) (fun s _ => Nat.rec (motive := fun _ => R) (no 10) (fun _ _ => hSet 0 H b (.loop 3 j e' ps' as' bo') fun H => Nat.rec (motive := fun _ => R) (kn e H) (fun m _ => kx m e H) j) s) st) (fun _ _ => no 14) (Nat.mod f 2))
  c
inductive FnE where
  | nat (g : List V → Heap → K → R)
  | code (ps : List Slot) (res : List RV) (c : CodeE)
noncomputable def getR (r : RV) (e : Env) (H : Heap) (k : V → R) : R := RV.rec (motive := fun _ => R) (fun s => getS s e k) (fun s => getS s e fun v => vPtr 0 v fun b o => loadC 0 H b o k) (fun s n => getS s e fun v => vPtr 0 v fun b o => loadN 0 H b o n fun l => k (.agg l)) r
noncomputable def getRs (l : List RV) (e : Env) (H : Heap) : (List V → R) → R := List.rec (motive := fun _ => (List V → R) → R) (fun k => k []) (fun r _ ih k => getR r e H fun v => ih fun q => k (v :: q)) l
noncomputable def retV (l : List V) (k : V → R) : R := List.rec (motive := fun _ => R) (k (.tup [])) (fun v r _ => List.rec (motive := fun _ => R) (k v) (fun _ _ _ => k (.tup l)) r) l
noncomputable def setPs (ps : List Slot) : List V → Env → (Env → R) → R := List.rec (motive := fun _ => List V → Env → (Env → R) → R) (fun l e k => List.rec (motive := fun _ => R) (k e) (fun _ _ _ => no 4) l)
  (fun s _ ih l e k => List.rec (motive := fun _ => R) (no 5) (fun v r _ => setS s v e fun e' => ih r e' k) l) ps
noncomputable def u0 : V := .tup []
noncomputable def u1 : N8 V := .mk u0 u0 u0 u0 u0 u0 u0 u0
noncomputable def u2 : N8 (N8 V) := .mk u1 u1 u1 u1 u1 u1 u1 u1
noncomputable def env0 : Env := .mk u2 u2 u2 u2 u2 u2 u2 u2
noncomputable def evFn (f : FnE) (fuel : Nat) (ph : Phi) (args : List V) (H : Heap) (k : K) : R := FnE.rec (motive := fun _ => R)
  (fun g => g args H k)
  (fun ps res c => setPs ps args env0 fun e => evC c fuel ph e H (fun e H => getRs res e H fun l => retV l fun v => k v H) fun n e H => Nat.rec (motive := fun _ => R) (getRs res e H fun l => retV l fun v => k v H) (fun _ _ => no 6) n) f
/-- A round of a range over a function. -/
noncomputable def evY (cp : RC → CodeE) (fuel : Nat) (ph : Phi) (b : Nat) (args : List V) (H : Heap) (k : K) : R :=
  hGet H b fun bl => bLoop bl fun st j e ps as bo => Nat.rec (motive := fun _ => R)
    (setPs ps args e fun e1 => evC (cp as) fuel ph e1 H (fun e2 H => hGet H b fun bl => bLoop bl fun st1 j1 e1 ps1 as1 bo1 => Nat.rec (motive := fun _ => R) (hSet 0 H b (.loop 1 j1 e1 ps1 as1 bo1) fun H => evC (cp bo) fuel ph e2 H
      (fun _ H => hGet H b fun bl => bLoop bl fun _ _ e' ps' as' bo' => hSet 0 H b (.loop 0 0 e' ps' as' bo') fun H => k (.bool true) H)
      fun n _ H => hGet H b fun bl => bLoop bl fun _ _ e' ps' as' bo' => hSet 0 H b (.loop 2 (Nat.succ n) e' ps' as' bo') fun H => k (.bool false) H) (fun _ _ => no 13) st1) (fun _ _ _ => no 11))
    (fun _ _ => no 12) st
noncomputable def evT (t : Nat → Option FnE) (fuel : Nat) (ph : Phi) (f : Nat) (args : List V) (H : Heap) (k : K) : R := forceN f fun f => Option.rec (motive := fun _ => R) (no (100 + f)) (fun fn => evFn fn fuel ph args H k) (t f)
noncomputable def evP (cp : RC → CodeE) (t : Nat → Option FnE) (fuel : Nat) (depth : Nat) : Phi := Nat.rec (motive := fun _ => Phi) (fun _ _ _ _ => no 7) (fun _ ih x args H k =>
  V.rec (motive_1 := fun _ => R) (motive_2 := fun _ => R) (fun _ _ => no 0) (fun _ => no 0) (fun _ _ => no 0) (fun _ _ => no 0) (no 0) (fun _ _ _ _ _ => no 0) (no 0) (fun _ => no 0) (no 0) (fun f caps _ => Nat.rec (motive := fun _ => R) (appL args caps fun args => evT t fuel ih (Nat.div f 2) args H k) (fun _ _ => appL caps args fun args => evT t fuel ih (Nat.div f 2) args H k) (Nat.mod f 2)) (fun b => evY cp fuel ih b args H k) (no 0) (fun _ _ _ => no 0) (no 0) (fun _ _ => no 0) (fun _ _ => no 0) (0 : R) (fun _ _ _ _ => (0 : R)) x) depth
noncomputable def H0 : Heap := .mk 0 0 .e
end Go.Ev

