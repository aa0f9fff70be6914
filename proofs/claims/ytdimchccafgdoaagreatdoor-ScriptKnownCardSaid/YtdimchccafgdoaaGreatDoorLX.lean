/- LX: a part of the evaluator,of its logic,or of the laws' walk in it. -/
import Derived.Test.YtdimchccafgdoaaGreatDoorShelf
import Derived.ProofKit
import Derived.WalkKit
import Derived.LaidEql
import Derived.Stop.Asserts
import Derived.RowKitTokens
import Derived.Lib.IfaceEq
import Derived.Test.YtdimchccafgdoaaGreatDoorLW
import Derived.Test.YtdimchccafgdoaaGreatDoorLE
set_option linter.unusedVariables false
set_option linter.unusedSimpArgs false
set_option linter.unusedSectionVars false
section
set_option maxRecDepth 100000
namespace Go.Ev.AsE
open Go.Proofs Go.RowKit Go.Extern.Stop Go.Stop Go.Extern
theorem valueOfP (t:Addr) (w:World):(ReflectliteValue.unpack (.iface 70 (.pointer (some t)))).run Tryz.prog w
  = .ok (.agg #[.pointer (some ⟨9,70,none⟩), .pointer (some ⟨w.heap.size,0,none⟩), .int .u64 150]) (w.alloc (.cells #[.pointer (some t)] 70)):=by kernel_rfl
theorem typeP (a:Addr) (w:World):(ReflectliteValue.methodAny (ReflectliteValue.valueError "reflectlite.Value.Type" 0) (fun t _ _ _=>ReflectliteType.toType t) #[.agg #[.pointer (some ⟨9,70,none⟩), .pointer (some a), .int .u64 150]]).run Tryz.prog w
  = .ok (.iface 109 (.agg #[.pointer (some ⟨9,70,none⟩)])) w:=by kernel_rfl
theorem methodKind (h:Value) (w:World):(Go.method 294 109 (.agg #[h]) "Kind").run Tryz.prog w = .ok (111,h) w:=by kernel_rfl
theorem kindP (w:World):((ReflectliteType.abiMethod fun t=>Functor.map (fun a:Nat=>Value.int IntKind.u8 (a:Int)) (Rtype.kind t)) #[.pointer (some ⟨9,70,none⟩)]).run Tryz.prog w = .ok (.int .u8 22) w:=by kernel_rfl
theorem kindE (w:World):((ReflectliteType.abiMethod fun t=>Functor.map (fun a:Nat=>Value.int IntKind.u8 (a:Int)) (Rtype.kind t)) #[.pointer (some ⟨9,25,none⟩)]).run Tryz.prog w = .ok (.int .u8 2) w:=by kernel_rfl
theorem rlm (z:Sem Value) (f:TypeId→Addr→Nat→Nat→Sem Value) (v:Value) :
  ReflectliteValue.method z f #[v]=(do match ← ReflectliteValue.parts v with | none=>z | some (t,a,fl)=>f t a fl (fl % 32)):=rfl
theorem partsP (a:Addr) (w:World):(ReflectliteValue.parts (.agg #[.pointer (some ⟨9,70,none⟩), .pointer (some a), .int .u64 150])).run Tryz.prog w = .ok (some (70,a,150)) w:=by kernel_rfl
theorem isNilP (a p:Addr) (W:World) (ha:W.cell? a=some (.pointer (some p))) :
  (ReflectliteValue.method (ReflectliteValue.valueError "reflectlite.Value.IsNil" 0) ReflectliteValue.isNil #[.agg #[.pointer (some ⟨9,70,none⟩), .pointer (some a), .int .u64 150]]).run Tryz.prog W = .ok (.bool false) W:=by
 rw [rlm]
 simp only [Sem.run_bind,partsP,Result.andThen]
 simp [ReflectliteValue.isNil,loadVar,isAgg,underlying,Tryz.underlying70,ha,Result.andThen]
theorem methodElem (h:Value) (w:World):(Go.method 294 109 (.agg #[h]) "Elem").run Tryz.prog w = .ok (124, .agg #[h]) w:=by kernel_rfl
theorem methodImplements (h:Value) (w:World):(Go.method 294 109 (.agg #[h]) "Implements").run Tryz.prog w = .ok (125, .agg #[h]) w:=by kernel_rfl
theorem methodAssignableTo (h:Value) (w:World):(Go.method 294 109 (.agg #[h]) "AssignableTo").run Tryz.prog w = .ok (122, .agg #[h]) w:=by kernel_rfl
theorem elemP (w:World):(ReflectliteType.method ReflectliteType.elem #[.agg #[.pointer (some ⟨9,70,none⟩)]]).run Tryz.prog w = .ok (.iface 109 (.agg #[.pointer (some ⟨9,25,none⟩)])) w:=by kernel_rfl
theorem implementsE (w:World):(ReflectliteType.relation "Implements" ReflectliteType.implements_ #[.agg #[.pointer (some ⟨9,25,none⟩)], .iface 109 (.agg #[.pointer (some ⟨9,31,none⟩)])]).run Tryz.prog w = .ok (.bool true) w:=by kernel_rfl
theorem typeOfE (v:Value) (w:World):(ReflectliteType.typeOf #[.iface 25 v]).run Tryz.prog w = .ok (.iface 109 (.agg #[.pointer (some ⟨9,25,none⟩)])) w:=by kernel_rfl
theorem assignableE (w:World):(ReflectliteType.relation "AssignableTo" ReflectliteType.assignableTo #[.agg #[.pointer (some ⟨9,25,none⟩)], .iface 109 (.agg #[.pointer (some ⟨9,25,none⟩)])]).run Tryz.prog w = .ok (.bool true) w:=by kernel_rfl
theorem valueOfE (x:Int) (w:World):(ReflectliteValue.unpack (.iface 25 (.int .i64 x))).run Tryz.prog w
  = .ok (.agg #[.pointer (some ⟨9,25,none⟩), .pointer (some ⟨w.heap.size,0,none⟩), .int .u64 130]) (w.alloc (.cells #[.int .i64 x] 25)):=by kernel_rfl
theorem elemOfP (w:World):(Rtype.elem? 70).run Tryz.prog w = .ok (some 25) w:=by kernel_rfl
theorem mkE (p:Addr) (w:World):(ReflectliteValue.mk 25 p ReflectliteValue.flagAddr).run Tryz.prog w = .ok (.agg #[.pointer (some ⟨9,25,none⟩), .pointer (some p), .int .u64 386]) w:=by kernel_rfl
theorem elemV (a p:Addr) (W:World) (ha:W.cell? a=some (.pointer (some p))) :
  (ReflectliteValue.method (ReflectliteValue.valueError "reflectlite.Value.Elem" 0) ReflectliteValue.elem #[.agg #[.pointer (some ⟨9,70,none⟩), .pointer (some a), .int .u64 150]]).run Tryz.prog W
   = .ok (.agg #[.pointer (some ⟨9,25,none⟩), .pointer (some p), .int .u64 386]) W:=by
 rw [rlm]
 simp only [Sem.run_bind,partsP,Result.andThen]
 simp [ReflectliteValue.elem,loadVar,isAgg,underlying,Tryz.underlying70,ha,Result.andThen,elemOfP,mkE]
theorem rls (v x:Value):ReflectliteValue.set #[v,x]=(do
  let (some (dst,a,fl),some (src,b,_)):=(← ReflectliteValue.parts v,← ReflectliteValue.parts x)
   | unsupported (.noEntry "extern/(internal/reflectlite.Value).Set.zeroValue")
  if fl / ReflectliteValue.flagAddr % 2 == 0 then unsupported (.noEntry "extern/(internal/reflectlite.Value).Set.unaddressable")
  let val ← loadVar src b
  if ← Rtype.directlyAssignable dst src then storeVar dst a val
  else if ← Rtype.implements dst src then
   if (← Rtype.kind src) == 20 then
    match val with
    | .nilIface=>unsupported (.noEntry "extern/reflectlite: a nil value of one interface type handed on as a value of another")
    | _=>storeVar dst a val
   else storeVar dst a (.iface src val)
  else panicString ("reflectlite.Set: value of type " ++ (← Rtype.spelt src) ++ " is not assignable to type " ++ (← Rtype.spelt dst))
  pure (.tuple #[])):=rfl
theorem partsEa (a:Addr) (w:World):(ReflectliteValue.parts (.agg #[.pointer (some ⟨9,25,none⟩), .pointer (some a), .int .u64 386])).run Tryz.prog w = .ok (some (25,a,386)) w:=by kernel_rfl
theorem partsE (a:Addr) (w:World):(ReflectliteValue.parts (.agg #[.pointer (some ⟨9,25,none⟩), .pointer (some a), .int .u64 130])).run Tryz.prog w = .ok (some (25,a,130)) w:=by kernel_rfl
theorem directE (w:World):(Rtype.directlyAssignable 25 25).run Tryz.prog w = .ok true w:=by kernel_rfl
theorem sizeE (w:World):(sizeOf 25).run Tryz.prog w = .ok 1 w:=by kernel_rfl
theorem setE (ta b:Addr) (x:Int) (old:Value) (W:World) (hb:W.cell? b=some (.int .i64 x)) (ht:W.cell? ta=some old) (hf:W.frozen? ta=false) :
  (ReflectliteValue.set #[.agg #[.pointer (some ⟨9,25,none⟩), .pointer (some ta), .int .u64 386], .agg #[.pointer (some ⟨9,25,none⟩), .pointer (some b), .int .u64 130]]).run Tryz.prog W
   = .ok (.tuple #[]) (W.setCell ta (.int .i64 x)):=by
 rw [rls]
 simp only [Sem.run_bind,partsEa,partsE,Result.andThen]
 simp [ReflectliteValue.flagAddr,loadVar,isAgg,underlying,Tryz.underlying25,hb,Result.andThen,directE,storeVar,Value.cells,storeCells,Addr.add]
 rw [run_store Tryz.prog W ta _ _ (by rfl)]
 simp [ht,hf]
set_option maxHeartbeats 8000000 in
theorem as_hit (x:Int) (t:Addr) (old:Value) (w:World) (hg:w.cell? ⟨0,0,none⟩=some (.iface 109 (.agg #[.pointer (some ⟨9,31,none⟩)]))) (ht0:w.cell? t=some old) (hf0:w.frozen? t=false) :
  Calls Tryz.prog 27 #[.iface 25 (.int .i64 x), .iface 70 (.pointer (some t))] w fun ev w'=>ev = .returned (.bool true) ∧ ∃ o1 o2 o3 o4,w'=((((w.alloc o1).alloc o2).alloc o3).alloc o4).setCell t (.int .i64 x):=by
 have h0:=@run_callFunc_extern Tryz.prog 46 _ (fun args=>ReflectliteValue.unpack (args.getD 0 (.tuple #[]))) Tryz.func46 (by kernel_rfl) (by kernel_rfl) (by kernel_rfl) (by kernel_rfl)
 have h1:=@run_callFunc_extern Tryz.prog 47 _ (ReflectliteValue.methodAny (ReflectliteValue.valueError "reflectlite.Value.Type" 0) (fun t _ _ _=>ReflectliteType.toType t)) Tryz.func47 (by kernel_rfl) (by kernel_rfl) (by kernel_rfl) (by kernel_rfl)
 have h2:=@run_callFunc_extern Tryz.prog 48 _ (ReflectliteValue.method (ReflectliteValue.valueError "reflectlite.Value.IsNil" 0) ReflectliteValue.isNil) Tryz.func48 (by kernel_rfl) (by kernel_rfl) (by kernel_rfl) (by kernel_rfl)
 have h3:=@run_callFunc_extern Tryz.prog 111 _ (ReflectliteType.abiMethod fun t=>do pure (.int .u8 (← Rtype.kind t))) Tryz.func111 (by kernel_rfl) (by kernel_rfl) (by kernel_rfl) (by kernel_rfl)
 have h4:=@run_callFunc_extern Tryz.prog 124 _ (ReflectliteType.method ReflectliteType.elem) Tryz.func124 (by kernel_rfl) (by kernel_rfl) (by kernel_rfl) (by kernel_rfl)
 have h5:=@run_callFunc_extern Tryz.prog 125 _ (ReflectliteType.relation "Implements" ReflectliteType.implements_) Tryz.func125 (by kernel_rfl) (by kernel_rfl) (by kernel_rfl) (by kernel_rfl)
 have h6:=@run_callFunc_extern Tryz.prog 51 _ ReflectliteType.typeOf Tryz.func51 (by kernel_rfl) (by kernel_rfl) (by kernel_rfl) (by kernel_rfl)
 have h7:=@run_callFunc_extern Tryz.prog 122 _ (ReflectliteType.relation "AssignableTo" ReflectliteType.assignableTo) Tryz.func122 (by kernel_rfl) (by kernel_rfl) (by kernel_rfl) (by kernel_rfl)
 have h8:=@run_callFunc_extern Tryz.prog 62 _ (ReflectliteValue.method (ReflectliteValue.valueError "reflectlite.Value.Elem" 0) ReflectliteValue.elem) Tryz.func62 (by kernel_rfl) (by kernel_rfl) (by kernel_rfl) (by kernel_rfl)
 have h9:=@run_callFunc_extern Tryz.prog 63 _ ReflectliteValue.set Tryz.func63 (by kernel_rfl) (by kernel_rfl) (by kernel_rfl) (by kernel_rfl)
 have tO:=typeOfE
 have mA:=methodAssignableTo
 have aE:=assignableE
 have vE:=valueOfE
 have f6:=valueOfP
 have f7:=typeP
 have mK:=methodKind
 have mE:=methodElem
 have mI:=methodImplements
 have kP:=kindP
 have kE:=kindE
 have eP:=elemP
 have iE:=implementsE
 have hlt:0<w.heap.size:=by
  rcases Nat.lt_or_ge 0 w.heap.size with h | h
  ·exact h
  ·simp [World.cell?,Array.getElem?_eq_none h] at hg
 have n8:=isNilP ⟨w.heap.size,0,none⟩ t ((w.alloc (.cells #[.pointer (some t)] 70)).alloc (.cells #[.pointer (some ⟨9,70,none⟩), .pointer (some ⟨w.heap.size,0,none⟩), .int .u64 150] 91)) (by rw [World.cell?_alloc_lt _ _ ⟨w.heap.size,0,none⟩ (by simp)];simp)
 have hg2:((w.alloc (.cells #[.pointer (some t)] 70)).alloc (.cells #[.pointer (some ⟨9,70,none⟩), .pointer (some ⟨w.heap.size,0,none⟩), .int .u64 150] 91)).cell? ⟨0,0,none⟩=some (.iface 109 (.agg #[.pointer (some ⟨9,31,none⟩)])):=by
  rw [World.cell?_alloc_lt _ _ ⟨0,0,none⟩ (by first | (simp;done) | (simp;omega)),World.cell?_alloc_lt _ _ ⟨0,0,none⟩ hlt];exact hg
 have htl:t.block<w.heap.size:=by
  rcases Nat.lt_or_ge t.block w.heap.size with h | h
  ·exact h
  ·simp [World.cell?,Array.getElem?_eq_none h] at ht0
 have el:=elemV ⟨w.heap.size,0,none⟩ t (((w.alloc (.cells #[.pointer (some t)] 70)).alloc (.cells #[.pointer (some ⟨9,70,none⟩), .pointer (some ⟨w.heap.size,0,none⟩), .int .u64 150] 91)).alloc (.cells #[.pointer (some ⟨9,70,none⟩), .pointer (some ⟨w.heap.size,0,none⟩), .int .u64 150] 91)) (by rw [World.cell?_alloc_lt _ _ ⟨w.heap.size,0,none⟩ (by simp;omega),World.cell?_alloc_lt _ _ ⟨w.heap.size,0,none⟩ (by simp)];simp)
 have st:=setE t ⟨w.heap.size+1+1+1,0,none⟩ x old ((((w.alloc (.cells #[.pointer (some t)] 70)).alloc (.cells #[.pointer (some ⟨9,70,none⟩), .pointer (some ⟨w.heap.size,0,none⟩), .int .u64 150] 91)).alloc (.cells #[.pointer (some ⟨9,70,none⟩), .pointer (some ⟨w.heap.size,0,none⟩), .int .u64 150] 91)).alloc (.cells #[.int .i64 x] 25))
  (by rw [World.cell?_alloc_at _ _ _ _ (by simp)];rfl)
  (by rw [World.cell?_alloc_lt _ _ t (by simp;omega),World.cell?_alloc_lt _ _ t (by simp;omega),World.cell?_alloc_lt _ _ t (by simp;omega),World.cell?_alloc_lt _ _ t htl];exact ht0)
  (by rw [World.frozen?_alloc_old _ _ t (by simp;omega),World.frozen?_alloc_old _ _ t (by simp;omega),World.frozen?_alloc_old _ _ t (by simp;omega),World.frozen?_alloc_old _ _ t (Nat.ne_of_lt htl)];exact hf0)
 go_enter Tryz.func27,Tryz.ntmps27
 go_wp2
 refine wp_loop_rounds 1 ?_
 rw [rounds_succ]
 go_wp2
 go_ret
 exact ⟨rfl,_,_,_,_,rfl⟩
end Go.Ev.AsE
end
section
set_option maxRecDepth 100000
namespace Go.Ev.AsF
open Go.Proofs Go.RowKit Go.Extern.Stop Go.Stop Go.Extern
theorem valueOfP (t:Addr) (w:World):(ReflectliteValue.unpack (.iface 74 (.pointer (some t)))).run Tryz.prog w
  = .ok (.agg #[.pointer (some ⟨9,74,none⟩), .pointer (some ⟨w.heap.size,0,none⟩), .int .u64 150]) (w.alloc (.cells #[.pointer (some t)] 74)):=by kernel_rfl
theorem typeP (a:Addr) (w:World):(ReflectliteValue.methodAny (ReflectliteValue.valueError "reflectlite.Value.Type" 0) (fun t _ _ _=>ReflectliteType.toType t) #[.agg #[.pointer (some ⟨9,74,none⟩), .pointer (some a), .int .u64 150]]).run Tryz.prog w
  = .ok (.iface 109 (.agg #[.pointer (some ⟨9,74,none⟩)])) w:=by kernel_rfl
theorem methodKind (h:Value) (w:World):(Go.method 294 109 (.agg #[h]) "Kind").run Tryz.prog w = .ok (111,h) w:=by kernel_rfl
theorem kindP (w:World):((ReflectliteType.abiMethod fun t=>Functor.map (fun a:Nat=>Value.int IntKind.u8 (a:Int)) (Rtype.kind t)) #[.pointer (some ⟨9,74,none⟩)]).run Tryz.prog w = .ok (.int .u8 22) w:=by kernel_rfl
theorem kindE (w:World):((ReflectliteType.abiMethod fun t=>Functor.map (fun a:Nat=>Value.int IntKind.u8 (a:Int)) (Rtype.kind t)) #[.pointer (some ⟨9,43,none⟩)]).run Tryz.prog w = .ok (.int .u8 22) w:=by kernel_rfl
theorem rlm (z:Sem Value) (f:TypeId→Addr→Nat→Nat→Sem Value) (v:Value) :
  ReflectliteValue.method z f #[v]=(do match ← ReflectliteValue.parts v with | none=>z | some (t,a,fl)=>f t a fl (fl % 32)):=rfl
theorem partsP (a:Addr) (w:World):(ReflectliteValue.parts (.agg #[.pointer (some ⟨9,74,none⟩), .pointer (some a), .int .u64 150])).run Tryz.prog w = .ok (some (74,a,150)) w:=by kernel_rfl
theorem isNilP (a p:Addr) (W:World) (ha:W.cell? a=some (.pointer (some p))) :
  (ReflectliteValue.method (ReflectliteValue.valueError "reflectlite.Value.IsNil" 0) ReflectliteValue.isNil #[.agg #[.pointer (some ⟨9,74,none⟩), .pointer (some a), .int .u64 150]]).run Tryz.prog W = .ok (.bool false) W:=by
 rw [rlm]
 simp only [Sem.run_bind,partsP,Result.andThen]
 simp [ReflectliteValue.isNil,loadVar,isAgg,underlying,Tryz.underlying74,ha,Result.andThen]
theorem methodElem (h:Value) (w:World):(Go.method 294 109 (.agg #[h]) "Elem").run Tryz.prog w = .ok (124, .agg #[h]) w:=by kernel_rfl
theorem methodImplements (h:Value) (w:World):(Go.method 294 109 (.agg #[h]) "Implements").run Tryz.prog w = .ok (125, .agg #[h]) w:=by kernel_rfl
theorem methodAssignableTo (h:Value) (w:World):(Go.method 294 109 (.agg #[h]) "AssignableTo").run Tryz.prog w = .ok (122, .agg #[h]) w:=by kernel_rfl
theorem elemP (w:World):(ReflectliteType.method ReflectliteType.elem #[.agg #[.pointer (some ⟨9,74,none⟩)]]).run Tryz.prog w = .ok (.iface 109 (.agg #[.pointer (some ⟨9,43,none⟩)])) w:=by kernel_rfl
theorem implementsE (w:World):(ReflectliteType.relation "Implements" ReflectliteType.implements_ #[.agg #[.pointer (some ⟨9,43,none⟩)], .iface 109 (.agg #[.pointer (some ⟨9,31,none⟩)])]).run Tryz.prog w = .ok (.bool true) w:=by kernel_rfl
theorem typeOfE (v:Value) (w:World):(ReflectliteType.typeOf #[.iface 43 v]).run Tryz.prog w = .ok (.iface 109 (.agg #[.pointer (some ⟨9,43,none⟩)])) w:=by kernel_rfl
theorem assignableE (w:World):(ReflectliteType.relation "AssignableTo" ReflectliteType.assignableTo #[.agg #[.pointer (some ⟨9,43,none⟩)], .iface 109 (.agg #[.pointer (some ⟨9,43,none⟩)])]).run Tryz.prog w = .ok (.bool true) w:=by kernel_rfl
theorem valueOfE (x:Addr) (w:World):(ReflectliteValue.unpack (.iface 43 (.pointer (some x)))).run Tryz.prog w
  = .ok (.agg #[.pointer (some ⟨9,43,none⟩), .pointer (some ⟨w.heap.size,0,none⟩), .int .u64 150]) (w.alloc (.cells #[.pointer (some x)] 43)):=by kernel_rfl
theorem elemOfP (w:World):(Rtype.elem? 74).run Tryz.prog w = .ok (some 43) w:=by kernel_rfl
theorem mkE (p:Addr) (w:World):(ReflectliteValue.mk 43 p ReflectliteValue.flagAddr).run Tryz.prog w = .ok (.agg #[.pointer (some ⟨9,43,none⟩), .pointer (some p), .int .u64 406]) w:=by kernel_rfl
theorem elemV (a p:Addr) (W:World) (ha:W.cell? a=some (.pointer (some p))) :
  (ReflectliteValue.method (ReflectliteValue.valueError "reflectlite.Value.Elem" 0) ReflectliteValue.elem #[.agg #[.pointer (some ⟨9,74,none⟩), .pointer (some a), .int .u64 150]]).run Tryz.prog W
   = .ok (.agg #[.pointer (some ⟨9,43,none⟩), .pointer (some p), .int .u64 406]) W:=by
 rw [rlm]
 simp only [Sem.run_bind,partsP,Result.andThen]
 simp [ReflectliteValue.elem,loadVar,isAgg,underlying,Tryz.underlying74,ha,Result.andThen,elemOfP,mkE]
theorem rls (v x:Value):ReflectliteValue.set #[v,x]=(do
  let (some (dst,a,fl),some (src,b,_)):=(← ReflectliteValue.parts v,← ReflectliteValue.parts x)
   | unsupported (.noEntry "extern/(internal/reflectlite.Value).Set.zeroValue")
  if fl / ReflectliteValue.flagAddr % 2 == 0 then unsupported (.noEntry "extern/(internal/reflectlite.Value).Set.unaddressable")
  let val ← loadVar src b
  if ← Rtype.directlyAssignable dst src then storeVar dst a val
  else if ← Rtype.implements dst src then
   if (← Rtype.kind src) == 20 then
    match val with
    | .nilIface=>unsupported (.noEntry "extern/reflectlite: a nil value of one interface type handed on as a value of another")
    | _=>storeVar dst a val
   else storeVar dst a (.iface src val)
  else panicString ("reflectlite.Set: value of type " ++ (← Rtype.spelt src) ++ " is not assignable to type " ++ (← Rtype.spelt dst))
  pure (.tuple #[])):=rfl
theorem partsEa (a:Addr) (w:World):(ReflectliteValue.parts (.agg #[.pointer (some ⟨9,43,none⟩), .pointer (some a), .int .u64 406])).run Tryz.prog w = .ok (some (43,a,406)) w:=by kernel_rfl
theorem partsE (a:Addr) (w:World):(ReflectliteValue.parts (.agg #[.pointer (some ⟨9,43,none⟩), .pointer (some a), .int .u64 150])).run Tryz.prog w = .ok (some (43,a,150)) w:=by kernel_rfl
theorem directE (w:World):(Rtype.directlyAssignable 43 43).run Tryz.prog w = .ok true w:=by kernel_rfl
theorem sizeE (w:World):(sizeOf 43).run Tryz.prog w = .ok 1 w:=by kernel_rfl
theorem setE (ta b:Addr) (x:Addr) (old:Value) (W:World) (hb:W.cell? b=some (.pointer (some x))) (ht:W.cell? ta=some old) (hf:W.frozen? ta=false) :
  (ReflectliteValue.set #[.agg #[.pointer (some ⟨9,43,none⟩), .pointer (some ta), .int .u64 406], .agg #[.pointer (some ⟨9,43,none⟩), .pointer (some b), .int .u64 150]]).run Tryz.prog W
   = .ok (.tuple #[]) (W.setCell ta (.pointer (some x))):=by
 rw [rls]
 simp only [Sem.run_bind,partsEa,partsE,Result.andThen]
 simp [ReflectliteValue.flagAddr,loadVar,isAgg,underlying,Tryz.underlying43,hb,Result.andThen,directE,storeVar,Value.cells,storeCells,Addr.add]
 rw [run_store Tryz.prog W ta _ _ (by rfl)]
 simp [ht,hf]
set_option maxHeartbeats 8000000 in
theorem as_hit (x:Addr) (t:Addr) (old:Value) (w:World) (hg:w.cell? ⟨0,0,none⟩=some (.iface 109 (.agg #[.pointer (some ⟨9,31,none⟩)]))) (ht0:w.cell? t=some old) (hf0:w.frozen? t=false) :
  Calls Tryz.prog 27 #[.iface 43 (.pointer (some x)), .iface 74 (.pointer (some t))] w fun ev w'=>ev = .returned (.bool true) ∧ ∃ o1 o2 o3 o4,w'=((((w.alloc o1).alloc o2).alloc o3).alloc o4).setCell t (.pointer (some x)):=by
 have h0:=@run_callFunc_extern Tryz.prog 46 _ (fun args=>ReflectliteValue.unpack (args.getD 0 (.tuple #[]))) Tryz.func46 (by kernel_rfl) (by kernel_rfl) (by kernel_rfl) (by kernel_rfl)
 have h1:=@run_callFunc_extern Tryz.prog 47 _ (ReflectliteValue.methodAny (ReflectliteValue.valueError "reflectlite.Value.Type" 0) (fun t _ _ _=>ReflectliteType.toType t)) Tryz.func47 (by kernel_rfl) (by kernel_rfl) (by kernel_rfl) (by kernel_rfl)
 have h2:=@run_callFunc_extern Tryz.prog 48 _ (ReflectliteValue.method (ReflectliteValue.valueError "reflectlite.Value.IsNil" 0) ReflectliteValue.isNil) Tryz.func48 (by kernel_rfl) (by kernel_rfl) (by kernel_rfl) (by kernel_rfl)
 have h3:=@run_callFunc_extern Tryz.prog 111 _ (ReflectliteType.abiMethod fun t=>do pure (.int .u8 (← Rtype.kind t))) Tryz.func111 (by kernel_rfl) (by kernel_rfl) (by kernel_rfl) (by kernel_rfl)
 have h4:=@run_callFunc_extern Tryz.prog 124 _ (ReflectliteType.method ReflectliteType.elem) Tryz.func124 (by kernel_rfl) (by kernel_rfl) (by kernel_rfl) (by kernel_rfl)
 have h5:=@run_callFunc_extern Tryz.prog 125 _ (ReflectliteType.relation "Implements" ReflectliteType.implements_) Tryz.func125 (by kernel_rfl) (by kernel_rfl) (by kernel_rfl) (by kernel_rfl)
 have h6:=@run_callFunc_extern Tryz.prog 51 _ ReflectliteType.typeOf Tryz.func51 (by kernel_rfl) (by kernel_rfl) (by kernel_rfl) (by kernel_rfl)
 have h7:=@run_callFunc_extern Tryz.prog 122 _ (ReflectliteType.relation "AssignableTo" ReflectliteType.assignableTo) Tryz.func122 (by kernel_rfl) (by kernel_rfl) (by kernel_rfl) (by kernel_rfl)
 have h8:=@run_callFunc_extern Tryz.prog 62 _ (ReflectliteValue.method (ReflectliteValue.valueError "reflectlite.Value.Elem" 0) ReflectliteValue.elem) Tryz.func62 (by kernel_rfl) (by kernel_rfl) (by kernel_rfl) (by kernel_rfl)
 have h9:=@run_callFunc_extern Tryz.prog 63 _ ReflectliteValue.set Tryz.func63 (by kernel_rfl) (by kernel_rfl) (by kernel_rfl) (by kernel_rfl)
 have tO:=typeOfE
 have mA:=methodAssignableTo
 have aE:=assignableE
 have vE:=valueOfE
 have f6:=valueOfP
 have f7:=typeP
 have mK:=methodKind
 have mE:=methodElem
 have mI:=methodImplements
 have kP:=kindP
 have kE:=kindE
 have eP:=elemP
 have iE:=implementsE
 have hlt:0<w.heap.size:=by
  rcases Nat.lt_or_ge 0 w.heap.size with h | h
  ·exact h
  ·simp [World.cell?,Array.getElem?_eq_none h] at hg
 have n8:=isNilP ⟨w.heap.size,0,none⟩ t ((w.alloc (.cells #[.pointer (some t)] 74)).alloc (.cells #[.pointer (some ⟨9,74,none⟩), .pointer (some ⟨w.heap.size,0,none⟩), .int .u64 150] 91)) (by rw [World.cell?_alloc_lt _ _ ⟨w.heap.size,0,none⟩ (by simp)];simp)
 have hg2:((w.alloc (.cells #[.pointer (some t)] 74)).alloc (.cells #[.pointer (some ⟨9,74,none⟩), .pointer (some ⟨w.heap.size,0,none⟩), .int .u64 150] 91)).cell? ⟨0,0,none⟩=some (.iface 109 (.agg #[.pointer (some ⟨9,31,none⟩)])):=by
  rw [World.cell?_alloc_lt _ _ ⟨0,0,none⟩ (by first | (simp;done) | (simp;omega)),World.cell?_alloc_lt _ _ ⟨0,0,none⟩ hlt];exact hg
 have htl:t.block<w.heap.size:=by
  rcases Nat.lt_or_ge t.block w.heap.size with h | h
  ·exact h
  ·simp [World.cell?,Array.getElem?_eq_none h] at ht0
 have el:=elemV ⟨w.heap.size,0,none⟩ t (((w.alloc (.cells #[.pointer (some t)] 74)).alloc (.cells #[.pointer (some ⟨9,74,none⟩), .pointer (some ⟨w.heap.size,0,none⟩), .int .u64 150] 91)).alloc (.cells #[.pointer (some ⟨9,74,none⟩), .pointer (some ⟨w.heap.size,0,none⟩), .int .u64 150] 91)) (by rw [World.cell?_alloc_lt _ _ ⟨w.heap.size,0,none⟩ (by simp;omega),World.cell?_alloc_lt _ _ ⟨w.heap.size,0,none⟩ (by simp)];simp)
 have st:=setE t ⟨w.heap.size+1+1+1,0,none⟩ x old ((((w.alloc (.cells #[.pointer (some t)] 74)).alloc (.cells #[.pointer (some ⟨9,74,none⟩), .pointer (some ⟨w.heap.size,0,none⟩), .int .u64 150] 91)).alloc (.cells #[.pointer (some ⟨9,74,none⟩), .pointer (some ⟨w.heap.size,0,none⟩), .int .u64 150] 91)).alloc (.cells #[.pointer (some x)] 43))
  (by rw [World.cell?_alloc_at _ _ _ _ (by simp)];rfl)
  (by rw [World.cell?_alloc_lt _ _ t (by simp;omega),World.cell?_alloc_lt _ _ t (by simp;omega),World.cell?_alloc_lt _ _ t (by simp;omega),World.cell?_alloc_lt _ _ t htl];exact ht0)
  (by rw [World.frozen?_alloc_old _ _ t (by simp;omega),World.frozen?_alloc_old _ _ t (by simp;omega),World.frozen?_alloc_old _ _ t (by simp;omega),World.frozen?_alloc_old _ _ t (Nat.ne_of_lt htl)];exact hf0)
 go_enter Tryz.func27,Tryz.ntmps27
 go_wp2
 refine wp_loop_rounds 1 ?_
 rw [rounds_succ]
 go_wp2
 go_ret
 exact ⟨rfl,_,_,_,_,rfl⟩
end Go.Ev.AsF
end
section
set_option maxRecDepth 100000
namespace Go.Ev.Is
open Go.Proofs Go.RowKit Go.Extern.Stop Go.Stop Go.Extern
theorem isTypeOf (v:Value) (w:World):(Extern.ReflectliteType.typeOf #[.iface 25 v]).run Tryz.prog w = .ok (.iface 109 (.agg #[.pointer (some ⟨9,25,none⟩)])) w:=by kernel_rfl
def cmpE:Array Value→Sem Value:=ReflectliteType.method fun t=>do Extern.Rtype.noPackHeld "Comparable" t;pure (.bool (← typeInfo t).comparable)
theorem isComparable (w:World):(cmpE #[.agg #[.pointer (some ⟨9,25,none⟩)]]).run Tryz.prog w = .ok (.bool true) w:=by kernel_rfl
theorem isMethodComparable (v:Value) (w:World):(Go.method 294 109 v "Comparable").run Tryz.prog w = .ok (123,v) w:=by kernel_rfl
theorem isComp:(Tryz.prog.info? 25).map (·.comparable)=some true:=by kernel_rfl
theorem noIsE (v:Value) (xT:TypeId) (w:World):(Instr.typeAssert (.iface 25 v) xT 121 true).run Tryz.prog w = .ok (.tuple #[.nilIface, .bool false]) w:=run_typeAssert_lacksB Tryz.underlying121 (by kernel_rfl) (by kernel_rfl) v xT w
theorem noUnwrapE (v:Value) (xT:TypeId) (w:World):(Instr.typeAssert (.iface 25 v) xT 116 true).run Tryz.prog w = .ok (.tuple #[.nilIface, .bool false]) w:=run_typeAssert_lacksB Tryz.underlying116 (by kernel_rfl) (by kernel_rfl) v xT w
theorem noUnwrapsE (v:Value) (xT:TypeId) (w:World):(Instr.typeAssert (.iface 25 v) xT 118 true).run Tryz.prog w = .ok (.tuple #[.nilIface, .bool false]) w:=run_typeAssert_lacksB Tryz.underlying118 (by kernel_rfl) (by kernel_rfl) v xT w
theorem noIsF (v:Value) (xT:TypeId) (w:World):(Instr.typeAssert (.iface 43 v) xT 121 true).run Tryz.prog w = .ok (.tuple #[.nilIface, .bool false]) w:=run_typeAssert_lacksB Tryz.underlying121 (by kernel_rfl) (by kernel_rfl) v xT w
theorem hasUnwrapF (v:Value) (xT:TypeId) (w:World):(Instr.typeAssert (.iface 43 v) xT 116 true).run Tryz.prog w = .ok (.tuple #[.iface 43 v, .bool true]) w:=run_typeAssert_hasB Tryz.underlying116 (by kernel_rfl) v xT w
theorem methodUnwrap (v:Value) (w:World):(Go.method 294 43 v "Unwrap").run Tryz.prog w = .ok (116,v) w:=by kernel_rfl
theorem unwrap (q:Addr) (x:Int) (w:World) (hq:w.cell? q=some (.int .i64 x)) (hs:q.spot=none) :
  Calls Tryz.prog 116 #[.pointer (some q)] w fun e w'=>e = .returned (.iface 25 (.int .i64 x))∧w'=w:=by
 obtain ⟨qb,qo,qs⟩:=q
 subst hs
 go_enter Tryz.func116,Tryz.ntmps116
 go_wp2
 go_ret
 exact ⟨rfl,rfl⟩
set_option maxHeartbeats 4000000 in
theorem is_fault (q:Addr) (x c:Int) (w:World) (hq:w.cell? q=some (.int .i64 x)) (hs:q.spot=none) :
  Calls Tryz.prog 30 #[.iface 43 (.pointer (some q)), .iface 25 (.int .i64 c)] w fun e w'=>e = .returned (.bool (decide (x=c)))∧w'=w:=by
 obtain ⟨i,hi,hcmp⟩:=Option.map_eq_some_iff.1 isComp
 have tO:=isTypeOf
 have tC:=isComparable
 have mC:=isMethodComparable
 have nE:=noIsE
 have uE:=noUnwrapE
 have vE:=noUnwrapsE
 have nW:=noIsF
 have uW:=hasUnwrapF
 have mU:=methodUnwrap
 have h0:=@run_callFunc_extern Tryz.prog 51 _ ReflectliteType.typeOf Tryz.func51 (by kernel_rfl) (by kernel_rfl) (by kernel_rfl) (by kernel_rfl)
 have h1:=@run_callFunc_extern Tryz.prog 123 _ cmpE Tryz.func123 (by kernel_rfl) (by kernel_rfl) (by kernel_rfl) (by kernel_rfl)
 have hty:=run_eql_iface_types (P:=Tryz.prog) 43 25 (.pointer (some q)) (.int .i64 c) Tryz.underlying31 (by decide) w
 go_enter Tryz.func30,Tryz.ntmps30
 go_wp2
 refine wp_loop_rounds 2 ?_
 rw [rounds_succ]
 go_wp2
 simp only [Array.getD_eq_getD_getElem?,List.getElem?_toArray,List.getElem?_cons_succ,List.getElem?_cons_zero,Option.getD_some]
 have hee:=Lib.run_eql_iface_int (P:=Tryz.prog) w (t:=31) (tx:=25) (k := .i64) x c Tryz.underlying31 isComp Tryz.underlying25
 by_cases hxc:x=c
 ·have hd:(x == c)=true:=beq_iff_eq.2 hxc
  have hd2:decide (x=c)=true:=decide_eq_true hxc
  clear hxc
  rw [rounds_succ]
  go_wp2
  go_ret
  exact ⟨by rw [hd2];rfl,rfl⟩
 ·have hd:(x == c)=false:=beq_eq_false_iff_ne.2 hxc
  have hd2:decide (x=c)=false:=decide_eq_false hxc
  clear hxc
  rw [rounds_succ]
  go_wp2
  go_ret
  exact ⟨by rw [hd2];rfl,rfl⟩
end Go.Ev.Is
end
section
namespace Go.Ev
open Go.Proofs Go.RowKit
theorem below_four (w:World) (o1 o2 o3 o4:Obj):Below w.heap.size w ((((w.alloc o1).alloc o2).alloc o3).alloc o4):=
 ((((Below.refl _ w).alloc (Nat.le_refl _) o1).alloc (by simp) o2).alloc (by simp;omega) o3).alloc (by simp;omega) o4
theorem asOK:AsOK Tryz.prog 27 where
 hfn:=as0OK.hfn
 nil:=as0OK.call
 errno w x c old hg h1 h2:=(AsE.as_hit x ⟨c,0,none⟩ old w hg.2.2.2.2.2 h1 h2).mono fun e w' ⟨he,o1,o2,o3,o4,hw⟩=>⟨he,_,below_four w o1 o2 o3 o4,hw⟩
 fault w q c old hg h1 h2:=(AsF.as_hit ⟨q,0,none⟩ ⟨c,0,none⟩ old w hg.2.2.2.2.2 h1 h2).mono fun e w' ⟨he,o1,o2,o3,o4,hw⟩=>⟨he,_,below_four w o1 o2 o3 o4,hw⟩
theorem isOK:IsOK Tryz.prog 30 where
 hfn:=⟨_,_,Tryz.func30,rfl,rfl⟩
 call w q x c h:=Is.is_fault ⟨q,0,none⟩ x c w h rfl
def decF:Nat→Nat→List UInt8
 | 0,n => [UInt8.ofNat (48+n)]
 | k+1,n=>if n<10 then [UInt8.ofNat (48+n)] else decF k (n / 10) ++ [UInt8.ofNat (48+n % 10)]
theorem decF_eq:∀ (k n:Nat),n<10 ^ (k+1)→decF k n=Lib.decDigits n
 | 0,n,h=>by
  rw [Lib.decDigits,dif_pos (by simpa using h)]
  rfl
 | k+1,n,h=>by
  unfold decF
  by_cases h1:n<10
  ·rw [if_pos h1,Lib.decDigits,dif_pos h1]
  ·rw [if_neg h1,Lib.decDigits,dif_neg h1,decF_eq k (n / 10) (by rw [Nat.div_lt_iff_lt_mul (by decide)];rw [Nat.pow_succ] at h;exact h)]
def itoaF (v:Int):List UInt8:=match v with
 | .ofNat n=>decF 19 n
 | .negSucc n=>45 :: decF 19 (n+1)
theorem itoaF_eq {v:Int} (h0 : -9223372036854775808≤v) (h1:v≤9223372036854775807):itoaF v=Lib.itoa v:=by
 unfold itoaF Lib.itoa
 cases v with
 | ofNat n=>
  rw [if_neg (by simp)]
  exact decF_eq 19 n (by simp at h1;omega)
 | negSucc n=>
  rw [if_pos (by simp [Int.negSucc_lt_zero])]
  exact congrArg (45 :: ·) (decF_eq 19 (n+1) (by have:=h0;simp [Int.negSucc_eq] at this;omega))
def numK (s:List UInt8):Nat:=match Lib.atoiAll s with
 | .ok v=>if itoaF v=s then (v % 18446744073709551616).toNat else 18446744073709551615
 | _=>18446744073709551615
theorem numK_eq:numK=numL:=funext fun s=>by
 unfold numK numL
 cases h:Lib.atoiAll s with
 | ok v=>
  obtain ⟨h0,h1⟩:=Lib.atoiAll_bounds h
  simp only [itoaF_eq h0 h1]
 | _=>rfl
theorem numberOKK:NumberOK Tryz.prog 45 numK:=by rw [numK_eq];exact numberOK
theorem numK_ok:NumOK numK:=by rw [numK_eq];exact numL_ok
end Go.Ev
end
