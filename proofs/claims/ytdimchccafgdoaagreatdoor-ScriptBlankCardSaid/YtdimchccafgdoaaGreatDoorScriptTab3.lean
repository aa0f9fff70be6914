/- script: the table with works, by one run of the kernel. -/
import Derived.Test.YtdimchccafgdoaaGreatDoorScriptTab2
import Derived.Test.YtdimchccafgdoaaGreatDoorLF
import Derived.ProofKit
set_option linter.unusedVariables false
namespace Go.Proofs.YtdimchccafgdoaaGreatDoor.script
open Go.RowKit Go.Ev
set_option maxRecDepth 100000 in
theorem run : @Eq Nat (evP (compRC Tryz.prog) tab6 100000 100 (.func (2 * 10) []) [] H0 isTrue) (nat_lit 1) := by kernel_rfl
set_option maxRecDepth 100000 in
theorem ran (w : World) (hg : GQ w ∧ ∀ c, GB c → c < w.heap.size) : Calls Tryz.prog 10 #[] w fun e w' => e = .returned (.bool true) ∧ Below w.heap.size w w' :=
  known mixed tab6OK Tryz.func10 rfl (by kernel_rfl) run w hg
theorem works_ok : NatOK Tryz.prog 10 nWorks := fun args H k h => by
  match args, h with
  | [], h =>
    refine ⟨.bool true, H, CallF.of_calls Tryz.func10 rfl rfl fun base w0 rho w cargs hp hv => ?_, h⟩
    have hc : cargs = #[] := by
      simp only [VRs] at hv
      cases cargs
      simp_all
    subst hc
    exact ⟨.bool true, by simp only [VR], ran w ⟨hp.gl.1, hp.gl.2.1⟩⟩
  | _ :: _, h => exact (no_ne h).elim
noncomputable def tab : Nat → Option FnE := add tab6 10 nWorks
theorem tabOK : TabOK Tryz.prog tab := add_ok works_ok tab6OK
theorem coded : TCode tab := TCode.over (fun f hf => by
  obtain ⟨_, h1, h2⟩ := others f hf
  unfold tab tab6
  rw [add_ne h2, add_ne h1]
  exact tab5_base hf) codes
theorem nats : SNat tab decL numK where
  index := by unfold tab tab6; rw [add_ne rfl, add_ne rfl]; exact nat5.index
  decode := by unfold tab tab6; rw [add_ne rfl, add_ne rfl]; exact nat5.decode
  contains := by unfold tab tab6; rw [add_ne rfl, add_ne rfl]; exact nat5.contains
  number := by unfold tab tab6; rw [add_ne rfl, add_ne rfl]; exact nat5.number
  as_ := ⟨nAs, by unfold tab tab6 tab5; rw [add_ne rfl, add_ne rfl, add_self], fun _ _ _ => rfl⟩
  dok := decL_ok
  nok := numK_ok
theorem isNat : tab 30 = some (.nat nIs) := by unfold tab tab6 tab5; rw [add_ne rfl, add_ne rfl, add_ne rfl, add_ne rfl, add_ne rfl, add_ne rfl, add_ne rfl]; exact base1_is
theorem asNat : tab 27 = some (.nat nAs) := by unfold tab tab6 tab5; rw [add_ne rfl, add_ne rfl, add_self]
theorem printed : tab 8 = some (.nat nPrint) := by unfold tab tab6; rw [add_ne rfl, add_self]
theorem worked : tab 10 = some (.nat nWorks) := by unfold tab; rw [add_self]
theorem rounds : CPs (compRC Tryz.prog) := ⟨rc11.1, rc11.2, rc11n.1, rc11n.2⟩
end Go.Proofs.YtdimchccafgdoaaGreatDoor.script
