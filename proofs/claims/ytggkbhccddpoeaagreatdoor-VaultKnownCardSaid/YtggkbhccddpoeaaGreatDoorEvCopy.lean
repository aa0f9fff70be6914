/- maps.Copy, where there is nothing to be copied, taken by its contract. -/
import Derived.Test.YtggkbhccddpoeaaGreatDoorEv32
import Derived.Test.YtggkbhccddpoeaaGreatDoorProg
import Derived.WalkKit
import Derived.ProofKit
import Derived.Laws.IdiomRangeMap
set_option linter.unusedVariables false
namespace Go.Proofs.YtggkbhccddpoeaaGreatDoor
open Go.RowKit Go.Ev

theorem run_range_map0 {P : Program} (w : World) (t k e : TypeId) (m clock : Nat) (ht : P.underlying t = some (.map k e)) (hm : w.heap[m]? = some (.map #[] clock)) :
    (Instr.range t (.map (some m))).run P w = .ok (.pointer (some ⟨w.heap.size, 0, none⟩)) (w.alloc (.mapIter (some m) clock #[] clock)) := by
  simp [Instr.range, run_underlying ht, Ev.run_getObj hm (by simp)]
theorem run_next_map0 {P : Program} (w : World) (ty : TypeId) (m a clock : Nat) (hm : w.heap[m]? = some (.map #[] clock)) :
    (Instr.next (.pointer (some ⟨w.heap.size, 0, none⟩)) false ty).run P (w.alloc (.mapIter (some m) a #[] a)) = .ok (.tuple #[.bool false]) (w.alloc (.mapIter (some m) a #[] a)) := by
  rcases run_next_map (P := P) w ty m a a #[] #[] clock hm (by simp) (Nat.le_refl _) with h | ⟨e, he, _⟩
  · exact h.2
  · simp [leftOf] at he

theorem copyOK : CopyOK Tryz.prog 60 where
  hfn := ⟨_, _, Tryz.func60, rfl, by kernel_rfl⟩
  hempty bd bs clock w hm := by
    have hrg := run_range_map0 (P := Tryz.prog) w 91 _ _ bs clock Tryz.underlying91 hm
    have hnx : ∀ ty, (Instr.next (.pointer (some ⟨w.heap.size, 0, none⟩)) false ty).run Tryz.prog (w.alloc (.mapIter (some bs) clock #[] clock)) = _ := fun ty => run_next_map0 w ty bs clock clock hm
    go_enter Tryz.func60, Tryz.ntmps60
    go_wp2
    refine wp_loop_rounds 1 ?_
    rw [rounds_succ]
    go_wp2
    go_end0
    exact ⟨rfl, (Below.refl _ _).alloc (Nat.le_refl _) _⟩
end Go.Proofs.YtggkbhccddpoeaaGreatDoor
