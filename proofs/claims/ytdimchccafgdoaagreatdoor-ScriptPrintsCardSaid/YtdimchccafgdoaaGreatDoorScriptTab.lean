/- script: the tables of functions that are taken by what is known of them; works by one run of the kernel. -/
import Derived.Test.YtdimchccafgdoaaGreatDoorLW
import Derived.Test.YtdimchccafgdoaaGreatDoorLC
import Derived.ProofKit
set_option linter.unusedVariables false
namespace Go.Proofs.YtdimchccafgdoaaGreatDoor.script
open Go.RowKit Go.Ev
theorem mixed : Tryz.prog.follows .mixedOrders = true := by kernel_rfl
/-- A table with one function more that is taken by what is known of it. -/
noncomputable def add (t : Nat → Option FnE) (g : Nat) (n : List V → Heap → K → R) : Nat → Option FnE := fun f => Bool.rec (motive := fun _ => Option FnE) (t f) (some (.nat n)) (Nat.beq f g)
theorem add_self {t : Nat → Option FnE} {g : Nat} {n : List V → Heap → K → R} : add t g n g = some (.nat n) := by unfold add; rw [Nat.beq_refl]
theorem add_ne {t : Nat → Option FnE} {f g : Nat} {n : List V → Heap → K → R} (h : Nat.beq f g = false) : add t g n f = t f := by unfold add; rw [h]
theorem add_ok {t : Nat → Option FnE} {g : Nat} {n : List V → Heap → K → R} (h : NatOK Tryz.prog g n) (ht : TabOK Tryz.prog t) : TabOK Tryz.prog (add t g n) := TabOK.nat h ht
/-- script.number, so that the kernel can run it. -/
def digs : List UInt8 → Nat → Nat
  | [], n => n
  | x :: l, n => digs l (n * 10 + (x.toNat - 48))
def numK (s : List UInt8) : Nat := if digs s 0 < 10000 ∧ s = decD (digs s 0) then digs s 0 else numL s
theorem numK_eq : numK = numL := funext fun s => by
  unfold numK
  split
  · rename_i h
    exact ((numL_ok.is s _ h.1).2 h.2).symm
  · rfl
theorem numberOK' : NumberOK Tryz.prog 45 numK := by rw [numK_eq]; exact numberOK
theorem numK_ok : NumOK numK := by rw [numK_eq]; exact numL_ok
noncomputable def base : Nat → Option FnE := fun f => (Tryz.prog.funcs[f]?).bind (compFn Tryz.prog f)
noncomputable def tab5 : Nat → Option FnE := add (add (add (add (add base 59 nIndex) 58 (nDecode decL)) 32 nContains) 45 (nNumber numK)) 27 nAs0
set_option maxRecDepth 100000 in
theorem tab5OK : TabOK Tryz.prog tab5 := add_ok as0OK.nat (add_ok numberOK'.nat (add_ok containsOK.nat (add_ok decodeOK.nat (add_ok indexOK.nat (TabOK.base mixed)))))
theorem others : ∀ f ∈ codeFns, (((Nat.beq f 59 = false ∧ Nat.beq f 58 = false) ∧ (Nat.beq f 32 = false ∧ Nat.beq f 45 = false)) ∧ Nat.beq f 27 = false) ∧ (Nat.beq f 8 = false ∧ Nat.beq f 10 = false) := by unfold codeFns; decide
theorem tab5_base {f : Nat} (h : f ∈ codeFns) : tab5 f = base f := by
  obtain ⟨⟨⟨⟨h1, h2⟩, h3, h4⟩, h5⟩, _⟩ := others f h
  unfold tab5
  rw [add_ne h5, add_ne h4, add_ne h3, add_ne h2, add_ne h1]
theorem coded5 : TCode tab5 := TCode.over (fun f hf => tab5_base hf) codes
theorem nat5 : SNat tab5 decL numK where
  index := by unfold tab5; rw [add_ne rfl, add_ne rfl, add_ne rfl, add_ne rfl, add_self]
  decode := by unfold tab5; rw [add_ne rfl, add_ne rfl, add_ne rfl, add_self]
  contains := by unfold tab5; rw [add_ne rfl, add_ne rfl, add_self]
  number := by unfold tab5; rw [add_ne rfl, add_self]
  as_ := ⟨nAs0, by unfold tab5; rw [add_self], fun _ _ _ => rfl⟩
  dok := decL_ok
  nok := numK_ok
theorem printOK5 : PrintOK Tryz.prog 8 := printOK mixed tab5OK coded5 nat5
noncomputable def tab6 : Nat → Option FnE := add tab5 8 nPrint
theorem tab6OK : TabOK Tryz.prog tab6 := add_ok printOK5.nat tab5OK
set_option maxRecDepth 100000 in
theorem run : @Eq Nat (evP (compRC Tryz.prog) tab6 100000 100 (.func (2 * 10) []) [] H0 isTrue) (nat_lit 1) := by kernel_rfl
set_option maxRecDepth 100000 in
theorem ran (w : World) (hg : GQ w ∧ ∀ c, GB c → c < w.heap.size) : Calls Tryz.prog 10 #[] w fun e w' => e = .returned (.bool true) ∧ Below w.heap.size w w' :=
  known mixed tab6OK Tryz.func10 rfl (by kernel_rfl) run w hg
theorem works_ok : NatOK Tryz.prog 10 nWorks := fun args H k h => by
  match args, h with
  | [], h =>
    refine ⟨.bool true, H, CallF.of_calls Tryz.func10 rfl rfl fun base w0 rho w cargs hp hv => ?_, h⟩
    have hc : cargs = #[] := by
      simp only [VRs] at hv
      cases cargs
      simp_all
    subst hc
    exact ⟨.bool true, by simp only [VR], ran w ⟨hp.gl.1, hp.gl.2.1⟩⟩
  | _ :: _, h => exact (no_ne h).elim
noncomputable def tab : Nat → Option FnE := add tab6 10 nWorks
theorem tabOK : TabOK Tryz.prog tab := add_ok works_ok tab6OK
theorem coded : TCode tab := TCode.over (fun f hf => by
  obtain ⟨_, h1, h2⟩ := others f hf
  unfold tab tab6
  rw [add_ne h2, add_ne h1]
  exact tab5_base hf) codes
theorem nats : SNat tab decL numK where
  index := by unfold tab tab6; rw [add_ne rfl, add_ne rfl]; exact nat5.index
  decode := by unfold tab tab6; rw [add_ne rfl, add_ne rfl]; exact nat5.decode
  contains := by unfold tab tab6; rw [add_ne rfl, add_ne rfl]; exact nat5.contains
  number := by unfold tab tab6; rw [add_ne rfl, add_ne rfl]; exact nat5.number
  as_ := ⟨nAs0, by unfold tab tab6 tab5; rw [add_ne rfl, add_ne rfl, add_self], fun _ _ _ => rfl⟩
  dok := decL_ok
  nok := numK_ok
theorem printed : tab 8 = some (.nat nPrint) := by unfold tab tab6; rw [add_ne rfl, add_self]
theorem worked : tab 10 = some (.nat nWorks) := by unfold tab; rw [add_self]
theorem rounds : CPs (compRC Tryz.prog) := ⟨rc11.1, rc11.2, rc11n.1, rc11n.2⟩
end Go.Proofs.YtdimchccafgdoaaGreatDoor.script
