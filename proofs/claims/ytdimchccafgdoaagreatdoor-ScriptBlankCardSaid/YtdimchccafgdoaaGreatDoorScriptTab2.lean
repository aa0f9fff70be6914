/- script: the tables of functions that are taken by what is known of them (errors.As, errors.Is in whole); works by one run of the kernel. -/
import Derived.Test.YtdimchccafgdoaaGreatDoorLX
import Derived.Test.YtdimchccafgdoaaGreatDoorLC
import Derived.ProofKit
set_option linter.unusedVariables false
namespace Go.Proofs.YtdimchccafgdoaaGreatDoor.script
open Go.RowKit Go.Ev
theorem mixed : Tryz.prog.follows .mixedOrders = true := by kernel_rfl
/-- A table with one function more that is taken by what is known of it. -/
noncomputable def add (t : Nat → Option FnE) (g : Nat) (n : List V → Heap → K → R) : Nat → Option FnE := fun f => Bool.rec (motive := fun _ => Option FnE) (t f) (some (.nat n)) (Nat.beq f g)
theorem add_self {t : Nat → Option FnE} {g : Nat} {n : List V → Heap → K → R} : add t g n g = some (.nat n) := by unfold add; rw [Nat.beq_refl]
theorem add_ne {t : Nat → Option FnE} {f g : Nat} {n : List V → Heap → K → R} (h : Nat.beq f g = false) : add t g n f = t f := by unfold add; rw [h]
theorem add_ok {t : Nat → Option FnE} {g : Nat} {n : List V → Heap → K → R} (h : NatOK Tryz.prog g n) (ht : TabOK Tryz.prog t) : TabOK Tryz.prog (add t g n) := TabOK.nat h ht
noncomputable def base : Nat → Option FnE := fun f => (Tryz.prog.funcs[f]?).bind (compFn Tryz.prog f)
noncomputable def base1 : Nat → Option FnE := add base 30 nIs
set_option maxRecDepth 100000 in
theorem base1OK : TabOK Tryz.prog base1 := add_ok isOK.nat (TabOK.base mixed)
theorem base1_ne : ∀ f ∈ codeFns, base1 f = base f := fun f hf => add_ne ((by unfold codeFns; decide : ∀ f ∈ codeFns, Nat.beq f 30 = false) f hf)
theorem base1_is : base1 30 = some (.nat nIs) := add_self
noncomputable def tab5 : Nat → Option FnE := add (add (add (add (add base1 59 nIndex) 58 (nDecode decL)) 32 nContains) 45 (nNumber numK)) 27 nAs
set_option maxRecDepth 100000 in
theorem tab5OK : TabOK Tryz.prog tab5 := add_ok asOK.nat (add_ok numberOKK.nat (add_ok containsOK.nat (add_ok decodeOK.nat (add_ok indexOK.nat base1OK))))
theorem others : ∀ f ∈ codeFns, (((Nat.beq f 59 = false ∧ Nat.beq f 58 = false) ∧ (Nat.beq f 32 = false ∧ Nat.beq f 45 = false)) ∧ Nat.beq f 27 = false) ∧ (Nat.beq f 8 = false ∧ Nat.beq f 10 = false) := by unfold codeFns; decide
theorem tab5_base {f : Nat} (h : f ∈ codeFns) : tab5 f = base f := by
  obtain ⟨⟨⟨⟨h1, h2⟩, h3, h4⟩, h5⟩, _⟩ := others f h
  unfold tab5
  rw [add_ne h5, add_ne h4, add_ne h3, add_ne h2, add_ne h1, base1_ne f h]
theorem coded5 : TCode tab5 := TCode.over (fun f hf => tab5_base hf) codes
theorem nat5 : SNat tab5 decL numK where
  index := by unfold tab5; rw [add_ne rfl, add_ne rfl, add_ne rfl, add_ne rfl, add_self]
  decode := by unfold tab5; rw [add_ne rfl, add_ne rfl, add_ne rfl, add_self]
  contains := by unfold tab5; rw [add_ne rfl, add_ne rfl, add_self]
  number := by unfold tab5; rw [add_ne rfl, add_self]
  as_ := ⟨nAs, by unfold tab5; rw [add_self], fun _ _ _ => rfl⟩
  dok := decL_ok
  nok := numK_ok
theorem printOK5 : PrintOK Tryz.prog 8 := printOK mixed tab5OK coded5 nat5
noncomputable def tab6 : Nat → Option FnE := add tab5 8 nPrint
theorem tab6OK : TabOK Tryz.prog tab6 := add_ok printOK5.nat tab5OK
end Go.Proofs.YtdimchccafgdoaaGreatDoor.script
