/- A region that draws its order: its operations in the order of the text. -/
import Derived.Test.YtmegpbadkojhbaaDoorEv23
set_option linter.unusedSectionVars false
set_option linter.unusedVariables false
set_option linter.unusedSimpArgs false
namespace Go.Ev
open Go.RowKit

def StepOK (P : Program) (nt : Nat) (ops : Array Oper) (iso pur : Bool) (B : Option Nat) (o : Oper) (e : Env) (H : Heap) (v : V) (e' : Env) (H' : Heap) : Prop :=
  ∃ d, dstOf nt o.dst = some d ∧ e' = psetD d v e ∧
    ((GW nt e ops o false ∧ v = .tup [] ∧ H' = H) ∨
     (GW nt e ops o true ∧ pur = true ∧ H' = H ∧ ∀ H2 : Heap, (∀ b, B = some b → H2.get b = H.get b) → OpS P nt o e H2 v H2) ∨
     (GW nt e ops o true ∧ pur = false ∧ iso = true ∧ OpS P nt o e H v H') ∨
     (GW nt e ops o true ∧ pur = false ∧ iso = false ∧ ∃ H1 H1' : Heap, H1.n = H.n ∧ (∀ b, H1.get b = H.get b) ∧ H1.wlo = H.n ∧ OpS P nt o e H1 v H1' ∧ H.n ≤ H1'.wlo ∧ H'.n = H1'.n ∧ (∀ b, H'.get b = H1'.get b) ∧ H'.wlo = H.wlo))

def ncons {α : Type} (a : α) (f : Nat → α) : Nat → α
  | 0 => a
  | j + 1 => f j

theorem evDreg_ok {P : Program} {nt : Nat} {ph : Phi} {ops : Array Oper} {base : Nat} {pl : List Bool} {bf : Array Nat} (hph : PhiOK P ph) : ∀ (l : List Oper) (i : Nat) (r : List OpW) (e : Env) (H : Heap) (k : Env → Heap → R), compRegG P nt base ops pl bf l i = some r → evDreg ph r e H k = 1 →
    ∃ (E : Nat → Env) (Hh : Nat → Heap) (Vv : Nat → V), E 0 = e ∧ Hh 0 = H ∧ (∀ j o, l[j]? = some o → StepOK P nt ops (isolated pl bf (i + j)) (pureOp (compOp P nt o)) none o (E j) (Hh j) (Vv j) (E (j + 1)) (Hh (j + 1))) ∧ k (E l.length) (Hh l.length) = 1
  | [], i, r, e, H, k, hc, h => by
    simp only [compRegG, Option.some.injEq] at hc
    subst hc
    exact ⟨fun _ => e, fun _ => H, fun _ => .nilp, rfl, rfl, fun j o hj => by simp at hj, h⟩
  | o :: l, i, r, e, H, k, hc, h => by
    simp only [compRegG] at hc
    split at hc
    · rename_i d g r' hd hg hr
      cases hc
      have fin : ∀ (v : V) (H1 : Heap), StepOK P nt ops (isolated pl bf i) (pureOp (compOp P nt o)) none o e H v (psetD d v e) H1 → evDreg ph r' (psetD d v e) H1 k = 1 → ∃ (E : Nat → Env) (Hh : Nat → Heap) (Vv : Nat → V), E 0 = e ∧ Hh 0 = H ∧ (∀ j o', (o :: l)[j]? = some o' → StepOK P nt ops (isolated pl bf (i + j)) (pureOp (compOp P nt o')) none o' (E j) (Hh j) (Vv j) (E (j + 1)) (Hh (j + 1))) ∧ k (E (o :: l).length) (Hh (o :: l).length) = 1 := fun v H1 hs hev => by
        obtain ⟨E, Hh, Vv, h1, h2, h3, h4⟩ := evDreg_ok hph l (i + 1) r' _ _ k hr hev
        refine ⟨ncons e E, ncons H Hh, ncons v Vv, rfl, rfl, fun j o' hj => ?_, h4⟩
        cases j with
        | zero =>
          simp only [List.getElem?_cons_zero, Option.some.injEq] at hj
          subst hj
          show StepOK P nt ops (isolated pl bf (i + 0)) _ none o e H v (E 0) (Hh 0)
          rw [h1, h2]
          exact hs
        | succ j =>
          have := h3 j o' (by simpa using hj)
          rw [show i + 1 + j = i + (j + 1) by omega] at this
          exact this
      have h' : wantG g e (Nat.rec (motive := fun _ => R) (evOp (compOp P nt o) (base + i) ph e H fun v H' => setD d v e fun e' => evDreg ph r' e' H' k) (fun _ _ => Heap.rec (motive := fun _ => R) (fun n wlo t => evOp (compOp P nt o) (base + i) ph e (.mk n n t) fun v H' => Heap.rec (motive := fun _ => R) (fun n' wlo' t' => ifB (Nat.ble n wlo') (setD d v e fun e' => evDreg ph r' e' (.mk n' wlo t') k) (no 0)) H') H) (if (pureOp (compOp P nt o) || isolated pl bf i) = true then 0 else 1)) (setD d (.tup []) e fun e' => evDreg ph r' e' H k) = 1 := h
      rcases wantG_or hg h' with ⟨h1, h2⟩ | ⟨h1, h2⟩
      · by_cases hpu : pureOp (compOp P nt o) = true
        · rw [if_pos (by simp [hpu])] at h1
          obtain ⟨v, h3, h4⟩ := pure_any hph hpu (show evOp (compOp P nt o) (base + i) ph e H (fun v H' => setD d v e fun e' => evDreg ph r' e' H' k) = 1 from h1)
          have h4' : setD d v e (fun e' => evDreg ph r' e' H k) = 1 := h4
          rw [setD_eq] at h4'
          exact fin v H ⟨d, hd, rfl, Or.inr (Or.inl ⟨h2, hpu, rfl, fun H2 _ => h3 H2⟩)⟩ h4'
        · by_cases his : isolated pl bf i = true
          · rw [if_pos (by simp [his])] at h1
            obtain ⟨v, H1, h3, h4⟩ := evOp_sound hph (show evOp (compOp P nt o) (base + i) ph e H (fun v H' => setD d v e fun e' => evDreg ph r' e' H' k) = 1 from h1)
            have h4' : setD d v e (fun e' => evDreg ph r' e' H1 k) = 1 := h4
            rw [setD_eq] at h4'
            exact fin v H1 ⟨d, hd, rfl, Or.inr (Or.inr (Or.inl ⟨h2, by simpa using hpu, his, h3⟩))⟩ h4'
          · rw [if_neg (by simp [hpu, his])] at h1
            cases H with
            | mk n wlo t =>
              obtain ⟨v, H1, h3, h4⟩ := evOp_sound hph (show evOp (compOp P nt o) (base + i) ph e (.mk n n t) (fun v H' => Heap.rec (motive := fun _ => R) (fun n' wlo' t' => ifB (Nat.ble n wlo') (setD d v e fun e' => evDreg ph r' e' (.mk n' wlo t') k) (no 0)) H') = 1 from h1)
              cases H1 with
              | mk n' wlo' t' =>
                have h4' : ifB (Nat.ble n wlo') (setD d v e fun e' => evDreg ph r' e' (.mk n' wlo t') k) (no 0) = 1 := h4
                obtain ⟨h5, h6⟩ := ifB_no h4'
                rw [setD_eq] at h6
                exact fin v (.mk n' wlo t') ⟨d, hd, rfl, Or.inr (Or.inr (Or.inr ⟨h2, by simpa using hpu, by simpa using his, .mk n n t, .mk n' wlo' t', rfl, fun _ => rfl, rfl, h3, ble_of h5, rfl, fun _ => rfl, rfl⟩))⟩ h6
      · rw [setD_eq] at h1
        exact fin _ H ⟨d, hd, rfl, Or.inl ⟨h2, rfl, rfl⟩⟩ h1
    · cases hc
end Go.Ev
