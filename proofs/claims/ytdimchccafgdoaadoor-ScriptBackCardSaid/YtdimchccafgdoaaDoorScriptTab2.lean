/- script: the tables of functions that are taken by what is known of them (errors.As, errors.Is in whole); works by one run of the kernel. -/
import Derived.Test.YtdimchccafgdoaaDoorLX
import Derived.Test.YtdimchccafgdoaaDoorLC
import Derived.ProofKit
set_option linter.unusedVariables false
namespace Go.Proofs.YtdimchccafgdoaaDoor.script
open Go.RowKit Go.Ev
theorem mixed : Tryd.prog.follows .mixedOrders = true := by kernel_rfl
/-- A table with one function more that is taken by what is known of it. -/
noncomputable def add (t : Nat → Option FnE) (g : Nat) (n : List V → Heap → K → R) : Nat → Option FnE := fun f => Bool.rec (motive := fun _ => Option FnE) (t f) (some (.nat n)) (Nat.beq f g)
theorem add_self {t : Nat → Option FnE} {g : Nat} {n : List V → Heap → K → R} : add t g n g = some (.nat n) := by unfold add; rw [Nat.beq_refl]
theorem add_ne {t : Nat → Option FnE} {f g : Nat} {n : List V → Heap → K → R} (h : Nat.beq f g = false) : add t g n f = t f := by unfold add; rw [h]
theorem add_ok {t : Nat → Option FnE} {g : Nat} {n : List V → Heap → K → R} (h : NatOK Tryd.prog g n) (ht : TabOK Tryd.prog t) : TabOK Tryd.prog (add t g n) := TabOK.nat h ht
noncomputable def base : Nat → Option FnE := fun f => (Tryd.prog.funcs[f]?).bind (compFn Tryd.prog f)
noncomputable def base1 : Nat → Option FnE := base
set_option maxRecDepth 100000 in
theorem base1OK : TabOK Tryd.prog base1 := TabOK.base mixed
theorem base1_ne : ∀ f ∈ codeFns, base1 f = base f := fun _ _ => rfl
noncomputable def tab5 : Nat → Option FnE := add (add (add (add (add base1 40 nIndex) 39 (nDecode decL)) 20 nContains) 29 (nNumber numK)) 18 nAs
set_option maxRecDepth 100000 in
theorem tab5OK : TabOK Tryd.prog tab5 := add_ok asOK.nat (add_ok numberOKK.nat (add_ok containsOK.nat (add_ok decodeOK.nat (add_ok indexOK.nat base1OK))))
theorem others : ∀ f ∈ codeFns, (((Nat.beq f 40 = false ∧ Nat.beq f 39 = false) ∧ (Nat.beq f 20 = false ∧ Nat.beq f 29 = false)) ∧ Nat.beq f 18 = false) ∧ (Nat.beq f 5 = false ∧ Nat.beq f 8 = false) := by unfold codeFns; decide
theorem tab5_base {f : Nat} (h : f ∈ codeFns) : tab5 f = base f := by
  obtain ⟨⟨⟨⟨h1, h2⟩, h3, h4⟩, h5⟩, _⟩ := others f h
  unfold tab5
  rw [add_ne h5, add_ne h4, add_ne h3, add_ne h2, add_ne h1, base1_ne f h]
theorem coded5 : TCode tab5 := TCode.over (fun f hf => tab5_base hf) codes
theorem nat5 : SNat tab5 decL numK where
  index := by unfold tab5; rw [add_ne rfl, add_ne rfl, add_ne rfl, add_ne rfl, add_self]
  decode := by unfold tab5; rw [add_ne rfl, add_ne rfl, add_ne rfl, add_self]
  contains := by unfold tab5; rw [add_ne rfl, add_ne rfl, add_self]
  number := by unfold tab5; rw [add_ne rfl, add_self]
  as_ := ⟨nAs, by unfold tab5; rw [add_self], fun _ _ _ => rfl⟩
  dok := decL_ok
  nok := numK_ok
theorem printOK5 : PrintOK Tryd.prog 5 := printOK mixed tab5OK coded5 nat5
noncomputable def tab6 : Nat → Option FnE := add tab5 5 nPrint
theorem tab6OK : TabOK Tryd.prog tab6 := add_ok printOK5.nat tab5OK
end Go.Proofs.YtdimchccafgdoaaDoor.script
