/- script: the table with works, by one run of the kernel. -/
import Derived.Test.YtdimchccafgdoaaDoorScriptTab2
import Derived.Test.YtdimchccafgdoaaDoorLF
import Derived.ProofKit
set_option linter.unusedVariables false
namespace Go.Proofs.YtdimchccafgdoaaDoor.script
open Go.RowKit Go.Ev
set_option maxRecDepth 100000 in
theorem run : @Eq Nat (evP (compRC Tryd.prog) tab6 100000 100 (.func (2 * 8) []) [] H0 isTrue) (nat_lit 1) := by kernel_rfl
set_option maxRecDepth 100000 in
theorem ran (w : World) (hg : GQ w ∧ ∀ c, GB c → c < w.heap.size) : Calls Tryd.prog 8 #[] w fun e w' => e = .returned (.bool true) ∧ Below w.heap.size w w' :=
  known mixed tab6OK Tryd.func8 rfl (by kernel_rfl) run w hg
theorem works_ok : NatOK Tryd.prog 8 nWorks := fun args H k h => by
  match args, h with
  | [], h =>
    refine ⟨.bool true, H, CallF.of_calls Tryd.func8 rfl rfl fun base w0 rho w cargs hp hv => ?_, h⟩
    have hc : cargs = #[] := by
      simp only [VRs] at hv
      cases cargs
      simp_all
    subst hc
    exact ⟨.bool true, by simp only [VR], ran w ⟨hp.gl.1, hp.gl.2.1⟩⟩
  | _ :: _, h => exact (no_ne h).elim
noncomputable def tab : Nat → Option FnE := add tab6 8 nWorks
theorem tabOK : TabOK Tryd.prog tab := add_ok works_ok tab6OK
theorem coded : TCode tab := TCode.over (fun f hf => by
  obtain ⟨_, h1, h2⟩ := others f hf
  unfold tab tab6
  rw [add_ne h2, add_ne h1]
  exact tab5_base hf) codes
theorem nats : SNat tab decL numK where
  index := by unfold tab tab6; rw [add_ne rfl, add_ne rfl]; exact nat5.index
  decode := by unfold tab tab6; rw [add_ne rfl, add_ne rfl]; exact nat5.decode
  contains := by unfold tab tab6; rw [add_ne rfl, add_ne rfl]; exact nat5.contains
  number := by unfold tab tab6; rw [add_ne rfl, add_ne rfl]; exact nat5.number
  as_ := ⟨nAs, by unfold tab tab6 tab5; rw [add_ne rfl, add_ne rfl, add_self], fun _ _ _ => rfl⟩
  dok := decL_ok
  nok := numK_ok
theorem asNat : tab 18 = some (.nat nAs) := by unfold tab tab6 tab5; rw [add_ne rfl, add_ne rfl, add_self]
theorem printed : tab 5 = some (.nat nPrint) := by unfold tab tab6; rw [add_ne rfl, add_self]
theorem worked : tab 8 = some (.nat nWorks) := by unfold tab; rw [add_self]
theorem rounds : CPs (compRC Tryd.prog) := ⟨rc6.1, rc6.2, rc6n.1, rc6n.2⟩
end Go.Proofs.YtdimchccafgdoaaDoor.script
