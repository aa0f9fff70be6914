/- LX: a part of the evaluator,of its logic,or of the laws' walk in it. -/
import Derived.Test.YtdimchccafgdoaaDoorShelf
import Derived.ProofKit
import Derived.WalkKit
import Derived.LaidEql
import Derived.Stop.Asserts
import Derived.RowKitTokens
import Derived.Lib.IfaceEq
import Derived.Test.YtdimchccafgdoaaDoorLW
import Derived.Test.YtdimchccafgdoaaDoorLE
set_option linter.unusedVariables false
set_option linter.unusedSimpArgs false
set_option linter.unusedSectionVars false
section
set_option maxRecDepth 100000
namespace Go.Ev.AsE
open Go.Proofs Go.RowKit Go.Extern.Stop Go.Stop Go.Extern
theorem valueOfP (t:Addr) (w:World):(ReflectliteValue.unpack (.iface 60 (.pointer (some t)))).run Tryd.prog w
  = .ok (.agg #[.pointer (some ⟨9,60,none⟩), .pointer (some ⟨w.heap.size,0,none⟩), .int .u64 150]) (w.alloc (.cells #[.pointer (some t)] 60)):=by kernel_rfl
theorem typeP (a:Addr) (w:World):(ReflectliteValue.methodAny (ReflectliteValue.valueError "reflectlite.Value.Type" 0) (fun t _ _ _=>ReflectliteType.toType t) #[.agg #[.pointer (some ⟨9,60,none⟩), .pointer (some a), .int .u64 150]]).run Tryd.prog w
  = .ok (.iface 93 (.agg #[.pointer (some ⟨9,60,none⟩)])) w:=by kernel_rfl
theorem methodKind (h:Value) (w:World):(Go.method 276 93 (.agg #[h]) "Kind").run Tryd.prog w = .ok (93,h) w:=by kernel_rfl
theorem kindP (w:World):((ReflectliteType.abiMethod fun t=>Functor.map (fun a:Nat=>Value.int IntKind.u8 (a:Int)) (Rtype.kind t)) #[.pointer (some ⟨9,60,none⟩)]).run Tryd.prog w = .ok (.int .u8 22) w:=by kernel_rfl
theorem kindE (w:World):((ReflectliteType.abiMethod fun t=>Functor.map (fun a:Nat=>Value.int IntKind.u8 (a:Int)) (Rtype.kind t)) #[.pointer (some ⟨9,23,none⟩)]).run Tryd.prog w = .ok (.int .u8 2) w:=by kernel_rfl
theorem rlm (z:Sem Value) (f:TypeId→Addr→Nat→Nat→Sem Value) (v:Value) :
  ReflectliteValue.method z f #[v]=(do match ← ReflectliteValue.parts v with | none=>z | some (t,a,fl)=>f t a fl (fl % 32)):=rfl
theorem partsP (a:Addr) (w:World):(ReflectliteValue.parts (.agg #[.pointer (some ⟨9,60,none⟩), .pointer (some a), .int .u64 150])).run Tryd.prog w = .ok (some (60,a,150)) w:=by kernel_rfl
theorem isNilP (a p:Addr) (W:World) (ha:W.cell? a=some (.pointer (some p))) :
  (ReflectliteValue.method (ReflectliteValue.valueError "reflectlite.Value.IsNil" 0) ReflectliteValue.isNil #[.agg #[.pointer (some ⟨9,60,none⟩), .pointer (some a), .int .u64 150]]).run Tryd.prog W = .ok (.bool false) W:=by
 rw [rlm]
 simp only [Sem.run_bind,partsP,Result.andThen]
 simp [ReflectliteValue.isNil,loadVar,isAgg,underlying,Tryd.underlying60,ha,Result.andThen]
theorem methodElem (h:Value) (w:World):(Go.method 276 93 (.agg #[h]) "Elem").run Tryd.prog w = .ok (106, .agg #[h]) w:=by kernel_rfl
theorem methodImplements (h:Value) (w:World):(Go.method 276 93 (.agg #[h]) "Implements").run Tryd.prog w = .ok (107, .agg #[h]) w:=by kernel_rfl
theorem methodAssignableTo (h:Value) (w:World):(Go.method 276 93 (.agg #[h]) "AssignableTo").run Tryd.prog w = .ok (104, .agg #[h]) w:=by kernel_rfl
theorem elemP (w:World):(ReflectliteType.method ReflectliteType.elem #[.agg #[.pointer (some ⟨9,60,none⟩)]]).run Tryd.prog w = .ok (.iface 93 (.agg #[.pointer (some ⟨9,23,none⟩)])) w:=by kernel_rfl
theorem implementsE (w:World):(ReflectliteType.relation "Implements" ReflectliteType.implements_ #[.agg #[.pointer (some ⟨9,23,none⟩)], .iface 93 (.agg #[.pointer (some ⟨9,27,none⟩)])]).run Tryd.prog w = .ok (.bool true) w:=by kernel_rfl
theorem typeOfE (v:Value) (w:World):(ReflectliteType.typeOf #[.iface 23 v]).run Tryd.prog w = .ok (.iface 93 (.agg #[.pointer (some ⟨9,23,none⟩)])) w:=by kernel_rfl
theorem assignableE (w:World):(ReflectliteType.relation "AssignableTo" ReflectliteType.assignableTo #[.agg #[.pointer (some ⟨9,23,none⟩)], .iface 93 (.agg #[.pointer (some ⟨9,23,none⟩)])]).run Tryd.prog w = .ok (.bool true) w:=by kernel_rfl
theorem valueOfE (x:Int) (w:World):(ReflectliteValue.unpack (.iface 23 (.int .i64 x))).run Tryd.prog w
  = .ok (.agg #[.pointer (some ⟨9,23,none⟩), .pointer (some ⟨w.heap.size,0,none⟩), .int .u64 130]) (w.alloc (.cells #[.int .i64 x] 23)):=by kernel_rfl
theorem elemOfP (w:World):(Rtype.elem? 60).run Tryd.prog w = .ok (some 23) w:=by kernel_rfl
theorem mkE (p:Addr) (w:World):(ReflectliteValue.mk 23 p ReflectliteValue.flagAddr).run Tryd.prog w = .ok (.agg #[.pointer (some ⟨9,23,none⟩), .pointer (some p), .int .u64 386]) w:=by kernel_rfl
theorem elemV (a p:Addr) (W:World) (ha:W.cell? a=some (.pointer (some p))) :
  (ReflectliteValue.method (ReflectliteValue.valueError "reflectlite.Value.Elem" 0) ReflectliteValue.elem #[.agg #[.pointer (some ⟨9,60,none⟩), .pointer (some a), .int .u64 150]]).run Tryd.prog W
   = .ok (.agg #[.pointer (some ⟨9,23,none⟩), .pointer (some p), .int .u64 386]) W:=by
 rw [rlm]
 simp only [Sem.run_bind,partsP,Result.andThen]
 simp [ReflectliteValue.elem,loadVar,isAgg,underlying,Tryd.underlying60,ha,Result.andThen,elemOfP,mkE]
theorem rls (v x:Value):ReflectliteValue.set #[v,x]=(do
  let (some (dst,a,fl),some (src,b,_)):=(← ReflectliteValue.parts v,← ReflectliteValue.parts x)
   | unsupported (.noEntry "extern/(internal/reflectlite.Value).Set.zeroValue")
  if fl / ReflectliteValue.flagAddr % 2 == 0 then unsupported (.noEntry "extern/(internal/reflectlite.Value).Set.unaddressable")
  let val ← loadVar src b
  if ← Rtype.directlyAssignable dst src then storeVar dst a val
  else if ← Rtype.implements dst src then
   if (← Rtype.kind src) == 20 then
    match val with
    | .nilIface=>unsupported (.noEntry "extern/reflectlite: a nil value of one interface type handed on as a value of another")
    | _=>storeVar dst a val
   else storeVar dst a (.iface src val)
  else panicString ("reflectlite.Set: value of type " ++ (← Rtype.spelt src) ++ " is not assignable to type " ++ (← Rtype.spelt dst))
  pure (.tuple #[])):=rfl
theorem partsEa (a:Addr) (w:World):(ReflectliteValue.parts (.agg #[.pointer (some ⟨9,23,none⟩), .pointer (some a), .int .u64 386])).run Tryd.prog w = .ok (some (23,a,386)) w:=by kernel_rfl
theorem partsE (a:Addr) (w:World):(ReflectliteValue.parts (.agg #[.pointer (some ⟨9,23,none⟩), .pointer (some a), .int .u64 130])).run Tryd.prog w = .ok (some (23,a,130)) w:=by kernel_rfl
theorem directE (w:World):(Rtype.directlyAssignable 23 23).run Tryd.prog w = .ok true w:=by kernel_rfl
theorem sizeE (w:World):(sizeOf 23).run Tryd.prog w = .ok 1 w:=by kernel_rfl
theorem setE (ta b:Addr) (x:Int) (old:Value) (W:World) (hb:W.cell? b=some (.int .i64 x)) (ht:W.cell? ta=some old) (hf:W.frozen? ta=false) :
  (ReflectliteValue.set #[.agg #[.pointer (some ⟨9,23,none⟩), .pointer (some ta), .int .u64 386], .agg #[.pointer (some ⟨9,23,none⟩), .pointer (some b), .int .u64 130]]).run Tryd.prog W
   = .ok (.tuple #[]) (W.setCell ta (.int .i64 x)):=by
 rw [rls]
 simp only [Sem.run_bind,partsEa,partsE,Result.andThen]
 simp [ReflectliteValue.flagAddr,loadVar,isAgg,underlying,Tryd.underlying23,hb,Result.andThen,directE,storeVar,Value.cells,storeCells,Addr.add]
 rw [run_store Tryd.prog W ta _ _ (by rfl)]
 simp [ht,hf]
set_option maxHeartbeats 8000000 in
theorem as_hit (x:Int) (t:Addr) (old:Value) (w:World) (hg:w.cell? ⟨0,0,none⟩=some (.iface 93 (.agg #[.pointer (some ⟨9,27,none⟩)]))) (ht0:w.cell? t=some old) (hf0:w.frozen? t=false) :
  Calls Tryd.prog 18 #[.iface 23 (.int .i64 x), .iface 60 (.pointer (some t))] w fun ev w'=>ev = .returned (.bool true) ∧ ∃ o1 o2 o3 o4,w'=((((w.alloc o1).alloc o2).alloc o3).alloc o4).setCell t (.int .i64 x):=by
 have h0:=@run_callFunc_extern Tryd.prog 30 _ (fun args=>ReflectliteValue.unpack (args.getD 0 (.tuple #[]))) Tryd.func30 (by kernel_rfl) (by kernel_rfl) (by kernel_rfl) (by kernel_rfl)
 have h1:=@run_callFunc_extern Tryd.prog 31 _ (ReflectliteValue.methodAny (ReflectliteValue.valueError "reflectlite.Value.Type" 0) (fun t _ _ _=>ReflectliteType.toType t)) Tryd.func31 (by kernel_rfl) (by kernel_rfl) (by kernel_rfl) (by kernel_rfl)
 have h2:=@run_callFunc_extern Tryd.prog 32 _ (ReflectliteValue.method (ReflectliteValue.valueError "reflectlite.Value.IsNil" 0) ReflectliteValue.isNil) Tryd.func32 (by kernel_rfl) (by kernel_rfl) (by kernel_rfl) (by kernel_rfl)
 have h3:=@run_callFunc_extern Tryd.prog 93 _ (ReflectliteType.abiMethod fun t=>do pure (.int .u8 (← Rtype.kind t))) Tryd.func93 (by kernel_rfl) (by kernel_rfl) (by kernel_rfl) (by kernel_rfl)
 have h4:=@run_callFunc_extern Tryd.prog 106 _ (ReflectliteType.method ReflectliteType.elem) Tryd.func106 (by kernel_rfl) (by kernel_rfl) (by kernel_rfl) (by kernel_rfl)
 have h5:=@run_callFunc_extern Tryd.prog 107 _ (ReflectliteType.relation "Implements" ReflectliteType.implements_) Tryd.func107 (by kernel_rfl) (by kernel_rfl) (by kernel_rfl) (by kernel_rfl)
 have h6:=@run_callFunc_extern Tryd.prog 43 _ ReflectliteType.typeOf Tryd.func43 (by kernel_rfl) (by kernel_rfl) (by kernel_rfl) (by kernel_rfl)
 have h7:=@run_callFunc_extern Tryd.prog 104 _ (ReflectliteType.relation "AssignableTo" ReflectliteType.assignableTo) Tryd.func104 (by kernel_rfl) (by kernel_rfl) (by kernel_rfl) (by kernel_rfl)
 have h8:=@run_callFunc_extern Tryd.prog 44 _ (ReflectliteValue.method (ReflectliteValue.valueError "reflectlite.Value.Elem" 0) ReflectliteValue.elem) Tryd.func44 (by kernel_rfl) (by kernel_rfl) (by kernel_rfl) (by kernel_rfl)
 have h9:=@run_callFunc_extern Tryd.prog 45 _ ReflectliteValue.set Tryd.func45 (by kernel_rfl) (by kernel_rfl) (by kernel_rfl) (by kernel_rfl)
 have tO:=typeOfE
 have mA:=methodAssignableTo
 have aE:=assignableE
 have vE:=valueOfE
 have f6:=valueOfP
 have f7:=typeP
 have mK:=methodKind
 have mE:=methodElem
 have mI:=methodImplements
 have kP:=kindP
 have kE:=kindE
 have eP:=elemP
 have iE:=implementsE
 have hlt:0<w.heap.size:=by
  rcases Nat.lt_or_ge 0 w.heap.size with h | h
  ·exact h
  ·simp [World.cell?,Array.getElem?_eq_none h] at hg
 have n8:=isNilP ⟨w.heap.size,0,none⟩ t ((w.alloc (.cells #[.pointer (some t)] 60)).alloc (.cells #[.pointer (some ⟨9,60,none⟩), .pointer (some ⟨w.heap.size,0,none⟩), .int .u64 150] 76)) (by rw [World.cell?_alloc_lt _ _ ⟨w.heap.size,0,none⟩ (by simp)];simp)
 have hg2:((w.alloc (.cells #[.pointer (some t)] 60)).alloc (.cells #[.pointer (some ⟨9,60,none⟩), .pointer (some ⟨w.heap.size,0,none⟩), .int .u64 150] 76)).cell? ⟨0,0,none⟩=some (.iface 93 (.agg #[.pointer (some ⟨9,27,none⟩)])):=by
  rw [World.cell?_alloc_lt _ _ ⟨0,0,none⟩ (by first | (simp;done) | (simp;omega)),World.cell?_alloc_lt _ _ ⟨0,0,none⟩ hlt];exact hg
 have htl:t.block<w.heap.size:=by
  rcases Nat.lt_or_ge t.block w.heap.size with h | h
  ·exact h
  ·simp [World.cell?,Array.getElem?_eq_none h] at ht0
 have el:=elemV ⟨w.heap.size,0,none⟩ t (((w.alloc (.cells #[.pointer (some t)] 60)).alloc (.cells #[.pointer (some ⟨9,60,none⟩), .pointer (some ⟨w.heap.size,0,none⟩), .int .u64 150] 76)).alloc (.cells #[.pointer (some ⟨9,60,none⟩), .pointer (some ⟨w.heap.size,0,none⟩), .int .u64 150] 76)) (by rw [World.cell?_alloc_lt _ _ ⟨w.heap.size,0,none⟩ (by simp;omega),World.cell?_alloc_lt _ _ ⟨w.heap.size,0,none⟩ (by simp)];simp)
 have st:=setE t ⟨w.heap.size+1+1+1,0,none⟩ x old ((((w.alloc (.cells #[.pointer (some t)] 60)).alloc (.cells #[.pointer (some ⟨9,60,none⟩), .pointer (some ⟨w.heap.size,0,none⟩), .int .u64 150] 76)).alloc (.cells #[.pointer (some ⟨9,60,none⟩), .pointer (some ⟨w.heap.size,0,none⟩), .int .u64 150] 76)).alloc (.cells #[.int .i64 x] 23))
  (by rw [World.cell?_alloc_at _ _ _ _ (by simp)];rfl)
  (by rw [World.cell?_alloc_lt _ _ t (by simp;omega),World.cell?_alloc_lt _ _ t (by simp;omega),World.cell?_alloc_lt _ _ t (by simp;omega),World.cell?_alloc_lt _ _ t htl];exact ht0)
  (by rw [World.frozen?_alloc_old _ _ t (by simp;omega),World.frozen?_alloc_old _ _ t (by simp;omega),World.frozen?_alloc_old _ _ t (by simp;omega),World.frozen?_alloc_old _ _ t (Nat.ne_of_lt htl)];exact hf0)
 go_enter Tryd.func18,Tryd.ntmps18
 go_wp2
 refine wp_loop_rounds 1 ?_
 rw [rounds_succ]
 go_wp2
 go_ret
 exact ⟨rfl,_,_,_,_,rfl⟩
end Go.Ev.AsE
end
section
end
section
end
section
namespace Go.Ev
open Go.Proofs Go.RowKit
theorem below_four (w:World) (o1 o2 o3 o4:Obj):Below w.heap.size w ((((w.alloc o1).alloc o2).alloc o3).alloc o4):=
 ((((Below.refl _ w).alloc (Nat.le_refl _) o1).alloc (by simp) o2).alloc (by simp;omega) o3).alloc (by simp;omega) o4
theorem asOK:AsOK Tryd.prog 18 where
 hfn:=as0OK.hfn
 nil:=as0OK.call
 errno w x c old hg h1 h2:=(AsE.as_hit x ⟨c,0,none⟩ old w hg.2.2.2.2.2 h1 h2).mono fun e w' ⟨he,o1,o2,o3,o4,hw⟩=>⟨he,_,below_four w o1 o2 o3 o4,hw⟩
def decF:Nat→Nat→List UInt8
 | 0,n => [UInt8.ofNat (48+n)]
 | k+1,n=>if n<10 then [UInt8.ofNat (48+n)] else decF k (n / 10) ++ [UInt8.ofNat (48+n % 10)]
theorem decF_eq:∀ (k n:Nat),n<10 ^ (k+1)→decF k n=Lib.decDigits n
 | 0,n,h=>by
  rw [Lib.decDigits,dif_pos (by simpa using h)]
  rfl
 | k+1,n,h=>by
  unfold decF
  by_cases h1:n<10
  ·rw [if_pos h1,Lib.decDigits,dif_pos h1]
  ·rw [if_neg h1,Lib.decDigits,dif_neg h1,decF_eq k (n / 10) (by rw [Nat.div_lt_iff_lt_mul (by decide)];rw [Nat.pow_succ] at h;exact h)]
def itoaF (v:Int):List UInt8:=match v with
 | .ofNat n=>decF 19 n
 | .negSucc n=>45 :: decF 19 (n+1)
theorem itoaF_eq {v:Int} (h0 : -9223372036854775808≤v) (h1:v≤9223372036854775807):itoaF v=Lib.itoa v:=by
 unfold itoaF Lib.itoa
 cases v with
 | ofNat n=>
  rw [if_neg (by simp)]
  exact decF_eq 19 n (by simp at h1;omega)
 | negSucc n=>
  rw [if_pos (by simp [Int.negSucc_lt_zero])]
  exact congrArg (45 :: ·) (decF_eq 19 (n+1) (by have:=h0;simp [Int.negSucc_eq] at this;omega))
def numK (s:List UInt8):Nat:=match Lib.atoiAll s with
 | .ok v=>if itoaF v=s then (v % 18446744073709551616).toNat else 18446744073709551615
 | _=>18446744073709551615
theorem numK_eq:numK=numL:=funext fun s=>by
 unfold numK numL
 cases h:Lib.atoiAll s with
 | ok v=>
  obtain ⟨h0,h1⟩:=Lib.atoiAll_bounds h
  simp only [itoaF_eq h0 h1]
 | _=>rfl
theorem numberOKK:NumberOK Tryd.prog 29 numK:=by rw [numK_eq];exact numberOK
theorem numK_ok:NumOK numK:=by rw [numK_eq];exact numL_ok
end Go.Ev
end
