/- maps.Clone and maps.Copy, taken by their contracts. -/
import Derived.Test.YtmegpbadkojhbaaDoorEvD
import Derived.Test.YtmegpbadkojhbaaDoorProg
import Derived.WalkKit
import Derived.ProofKit
import Derived.Laws.IdiomRangeMap
import Derived.Maps.RangeRun
import Derived.Maps.RangeWalk
import Derived.Maps.Own
import Derived.Laws.Externs
set_option linter.unusedVariables false
set_option linter.unusedSimpArgs false
namespace Go.Proofs.YtmegpbadkojhbaaDoor
open Go.RowKit Go.Ev Go.WideShapes

theorem run_eqlIn_map_nil {P : Program} (w : World) (d : Nat) (t k e : TypeId) (p : Option Nat) (h : P.underlying t = some (.map k e)) : (Op.equalIn (d + 1) t (.map p) (.map none)).run P w = .ok p.isNone w := by
  cases p <;> simp [Op.equalIn, run_underlying h]
theorem run_eql_map_nil {P : Program} (w : World) (t k e : TypeId) (p : Option Nat) (h : P.underlying t = some (.map k e)) : (binOp .eql t (.map p) (.map none)).run P w = .ok (.bool p.isNone) w := by
  simp only [binOp]
  simp [show Op.equal t (.map p) (.map none) = Op.equalIn (9999 + 1) t (.map p) (.map none) from rfl, run_eqlIn_map_nil w 9999 t k e p h]
theorem run_assert_map {P : Program} (w : World) (t xT k e : TypeId) (v : Value) (h : P.underlying t = some (.map k e)) : (Instr.typeAssert (.iface t v) xT t false).run P w = .ok v w := by
  simp [Instr.typeAssert, run_underlying h, go_sem, Result.andThen]
theorem run_clone {P : Program} (w : World) {r : Nat} {es : Array MapEntry} {clock : Nat} (t : TypeId) (hb : w.heap[r]? = some (.map es clock)) :
    (Extern.MapsClone.clone #[.iface t (.map (some r))]).run P w = .ok (.iface t (.map (some w.heap.size))) (w.alloc (.map es clock)) := by
  have e : Extern.MapsClone.clone #[.iface t (.map (some r))] = (getObj r >>= fun o => match o with
      | .map entries clock => (newObj (.map entries clock) >>= fun n => pure (.iface t (.map (some n))))
      | _ => stuck "maps.clone: a map expected") := rfl
  rw [e]
  simp [MapKept.run_getObj_map hb, Result.andThen, go_sem]

set_option maxHeartbeats 2000000 in
set_option maxRecDepth 100000 in
theorem cloneOK : CloneOK Tryd.prog 34 where
  hfn := ⟨_, _, Tryd.func34, rfl, by kernel_rfl⟩
  hclone b es clock w hb := by
    have hq := fun w => run_eql_map_nil (P := Tryd.prog) w 66 _ _ (some b) Tryd.underlying66
    go_enter Tryd.func34, Tryd.ntmps34
    go_wp2
    rw [run_callFunc_extern Tryd.func53 (by kernel_rfl) (by kernel_rfl) (by kernel_rfl) (e := Extern.MapsClone.clone) (by kernel_rfl), run_clone w 66 hb]
    simp only [Result.andThen]
    rw [Oper.upon_value]
    go_wp2
    rw [run_assert_map _ 66 _ _ _ _ Tryd.underlying66]
    simp only [Result.andThen]
    rw [Oper.upon_value]
    go_wp2
    go_ret
    exact ⟨rfl, rfl⟩

set_option maxHeartbeats 4000000 in
set_option maxRecDepth 100000 in
theorem copyMOK : CopyMOK Tryd.prog 40 where
  hfn := ⟨_, _, Tryd.func40, rfl, by kernel_rfl⟩
  hcopy m w bd bs cD cS D S esd ess hne hd hs eD eS sD sS kD kS hint hkd := by
    have hbd : bd < w.heap.size := (Array.getElem?_eq_some_iff.1 hd).1
    have hbs : bs < w.heap.size := (Array.getElem?_eq_some_iff.1 hs).1
    have hrg := run_range_map (P := Tryd.prog) w 66 _ _ bs S cS Tryd.underlying66 hs
    have hst := CpI.start hne eS sS kS hint hkd hd hs eD sD kD
    have hround := @CpI.round m w bd bs cS S esd ess hne eS sS kS hint hkd Tryd.prog 66 _ _ _ Tryd.underlying66 Tryd.underlying3 (Or.inl ⟨rfl, _, rfl⟩)
    clear hd hs eD eS sD sS kD kS hint hkd
    go_enter Tryd.func40, Tryd.ntmps40
    go_wp2
    go_loopw [8] (fun _ wr => ∃ seen esd' D' cD', CpI m w bd bs cS S esd ess seen esd' D' cD' wr) (fun _ wr => wr.rangeLeft bs w.heap.size)
    case atStart => exact ⟨_, _, _, _, hst⟩
    case round =>
      obtain ⟨seen, esd', D', cD', h⟩ := hrel
      rcases hround h hbs hbd 0 with ⟨h0, hnx, hov⟩ | ⟨kx, vy, w1, w2, seen2, esd2, D2, cD2, hnx, hen, hmu, h2, hlt⟩
      · clear hround hrg hst
        go_wp2
        go_end0
        exact ⟨rfl, D', cD', esd', h.dst, h.ents, h.st, h.keys, hov, h.frame, by rw [h.size]; omega, h.same⟩
      · clear hround hrg hst
        go_wp2
        go_roundw
        case rel => exact ⟨_, _, _, _, h2⟩
        case measure => simp only [World.rangeLeft, h.src, h.it, h2.src, h2.it]; exact hlt
end Go.Proofs.YtmegpbadkojhbaaDoor
