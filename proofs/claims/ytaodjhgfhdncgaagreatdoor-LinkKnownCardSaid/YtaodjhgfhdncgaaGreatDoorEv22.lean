/- A region whose order is given. -/
import Derived.Test.YtaodjhgfhdncgaaGreatDoorEv21
set_option linter.unusedSectionVars false
set_option linter.unusedVariables false
set_option linter.unusedSimpArgs false
namespace Go.Ev
open Go.RowKit

theorem wpIn_lift {F : Fence} {n : Nat} {P : Program} {o : Oper} {a : Act} {w : World} {K K' : Act → World → Prop} {Q : Exit → Act → World → Prop} (h : o.wpIn F n P a w K (fun _ _ _ => False)) (hk : ∀ a w, K a w → K' a w) : o.wpIn F n P a w K' Q := by
  refine ⟨h.1, ?_⟩
  have h := h.2
  generalize (o.semAt F.round a.eval).run P w = r at *
  cases r with
  | ok x w' =>
    cases x <;> simp only [Oper.uponIn] at h ⊢
    case value v => exact hk _ _ h
    case skip => exact hk _ _ h
    case defer d => exact hk _ _ h
    case enter f args =>
      refine ⟨h.1, CallsIn.mono h.2 fun e w'' he => ?_⟩
      cases e with
      | returned u => exact hk _ _ he
      | panicked c => exact he.elim
      | outgrown => obtain ⟨_, _, h⟩ := he; exact h.elim
    case row row args => exact ⟨h.1, RowsIn.mono h.2 fun u w'' he => hk _ _ he⟩
    case round l f tmps assign body =>
      refine ⟨h.1, RoundIn.mono h.2 fun e w'' he => ?_⟩
      cases e with
      | returned u => exact hk _ _ he
      | panicked c => exact he.elim
      | outgrown => obtain ⟨_, _, h⟩ := he; exact h.elim
  | halt x w' =>
    cases x <;> simp only [Oper.uponIn] at h ⊢

theorem isB_or {x : V} {b : Bool} {t f : R} (h : isB x b t f = 1) : (x = .bool b ∧ t = 1) ∨ (x ≠ .bool b ∧ f = 1) := by
  cases x <;> first | exact Or.inr ⟨(by intro h; cases h), h⟩ | skip
  rename_i c
  cases c <;> cases b <;> first | exact Or.inl ⟨rfl, h⟩ | exact Or.inr ⟨(by intro h; cases h), h⟩
theorem vr_bool {m : M} {x : V} {b : Bool} (h : VR m x (.bool b)) : x = .bool b := by
  cases x <;> simp only [VR] at h <;> first | exact Value.noConfusion h | exact Value.noConfusion h.1 | (obtain ⟨_, h, _⟩ := h; exact Value.noConfusion h) | (obtain ⟨_, _, _, h, _⟩ := h; exact Value.noConfusion h) | (cases h; rfl)
theorem vr_undef {m : M} : VR m (.tup []) undef := by
  simp only [VR]; exact ⟨#[], rfl, by simp only [VRs]⟩

/-- What a guard looks at stands for what it should. -/
def GT (nt : Nat) (m : M) (e : Env) (ops : Array Oper) (o : Oper) (tmps : Array Value) : Prop := ∀ j b o' d, o.guard = some (j, b) → ops[j]? = some o' → o'.dst = some d → d < nt → ∃ v, tmps[d]? = some v ∧ VR m (pget (slotOf d) e) v
def GW (nt : Nat) (e : Env) (ops : Array Oper) (o : Oper) (b : Bool) : Prop := ∀ (m : M) (tmps : Array Value), GT nt m e ops o tmps → Region.wanted o (yielded ops tmps) = b
theorem TR.gt {m : M} {nt : Nat} {e : Env} {tmps : Array Value} (h : TR m nt e tmps) (ops : Array Oper) (o : Oper) : GT nt m e ops o tmps := fun j b o' d _ _ _ hlt => by
  have hs := h.size
  have hlt' : d < tmps.size := by rw [hs]; exact hlt
  exact ⟨_, Array.getElem?_eq_getElem hlt', h.get d _ (Array.getElem?_eq_getElem hlt')⟩

theorem wantG_or {nt : Nat} {e : Env} {ops : Array Oper} {o : Oper} {g : Option (Slot × Bool)} (hg : guardOf nt ops o.guard = some g) {t f : R} (h : wantG g e t f = 1) :
    (t = 1 ∧ GW nt e ops o true) ∨ (f = 1 ∧ GW nt e ops o false) := by
  unfold guardOf at hg
  split at hg
  · rename_i hn
    cases hg
    exact Or.inl ⟨h, fun m tmps ht => by simp [Region.wanted, hn]⟩
  · rename_i j b hn
    split at hg
    · rename_i o' ho'
      split at hg
      · rename_i d hd
        split at hg
        · rename_i hlt
          cases hg
          have h' : getS (slotOf d) e (fun v => isB v b t f) = 1 := h
          rw [getS_eq] at h'
          rcases isB_or h' with ⟨h1, h2⟩ | ⟨h1, h2⟩
          · refine Or.inl ⟨h2, fun m tmps ht => ?_⟩
            obtain ⟨c, hex, h3⟩ := ht j b o' d hn ho' hd hlt
            rw [h1] at h3
            simp only [VR] at h3
            simp [Region.wanted, hn, yielded, ho', hd, hex, h3]
          · refine Or.inr ⟨h2, fun m tmps ht => ?_⟩
            obtain ⟨c, hex, h3⟩ := ht j b o' d hn ho' hd hlt
            have h4 : yielded ops tmps j ≠ some b := by
              simp only [yielded, ho', Option.bind_some, hd, hex]
              split
              · rename_i c hc
                rw [Option.some.injEq] at hc
                rw [hc] at h3
                intro he
                cases he
                exact h1 (vr_bool h3)
              · intro he; cases he
            simp [Region.wanted, hn, h4]
        · cases hg
      · cases hg
    · cases hg

/-- The environment after an operation. -/
def psetD (d : Option Slot) (v : V) (e : Env) : Env := match d with
  | none => e
  | some s => pset s v e
theorem setD_eq (d : Option Slot) (v : V) (e : Env) (k : Env → R) : setD d v e k = k (psetD d v e) := by
  cases d with
  | none => rfl
  | some s => exact setS_eq s v e k
theorem put_ok {m : M} {nt : Nat} {e : Env} {a : Act} (h : TR m nt e a.tmps) {dst : Option Tmp} {d : Option Slot} (hd : dstOf nt dst = some d) {v : V} {c : Value} (hv : VR m v c) : TR m nt (psetD d v e) (a.put dst c).tmps := by
  unfold dstOf at hd
  split at hd
  · cases hd; exact h
  · split at hd
    · rename_i hlt
      cases hd
      exact h.put hlt hv
    · cases hd
theorem put_defers (a : Act) (dst : Option Tmp) (c : Value) : (a.put dst c).defers = a.defers := by cases dst <;> rfl

/-- Operations one after another. -/
def RS (P : Program) (nt : Nat) (ops : Array Oper) (l : List Oper) (e : Env) (H : Heap) (e' : Env) (H' : Heap) : Prop :=
  ∀ (rd : Option Nat) (base : Nat) (w0 : World) (rho : Nat → Option Nat) (w : World) (a : Act), PR P base w0 rho H w → TR (mu rho H w) nt e a.tmps →
    ∀ (Q : Exit → Act → World → Prop), (∀ a' w' rho', a'.defers = a.defers → PR P base w0 rho' H' w' → TR (mu rho' H' w') nt e' a'.tmps → Ext rho H w rho' H' w' → Q .normal a' w') → wpListIn (WF rd) 0 P ops Q l a w

theorem evReg_ok {P : Program} {nt : Nat} {ph : Phi} {ops : Array Oper} {base : Nat} {pl al : List Bool} {bf : Array Nat} (hph : PhiOK P ph) : ∀ (l : List Oper) (i : Nat) (r : List OpW) (e : Env) (H : Heap) (k : Env → Heap → R), compRegG P nt base ops pl al bf l i = some r → evReg ph r e H k = 1 →
    ∃ e' H', RS P nt ops l e H e' H' ∧ k e' H' = 1
  | [], i, r, e, H, k, hc, h => by
    simp only [compRegG, Option.some.injEq] at hc
    subst hc
    exact ⟨e, H, fun rd base w0 rho w a hp ht Q hq => hq a w rho rfl hp ht (Ext.refl hp.lt), h⟩
  | o :: l, i, r, e, H, k, hc, h => by
    simp only [compRegG] at hc
    split at hc
    · rename_i d g r' hd hg hr
      cases hc
      have h' : wantG g e (evOp (compOp P nt o) (base + i) ph e H fun v H' => setD d v e fun e' => evReg ph r' e' H' k) (setD d (.tup []) e fun e' => evReg ph r' e' H k) = 1 := h
      rcases wantG_or hg h' with ⟨h1, h2⟩ | ⟨h1, h2⟩
      · obtain ⟨v, H1, h3, h4⟩ := evOp_sound hph h1
        replace h4 : setD d v e (fun e' => evReg ph r' e' H1 k) = 1 := h4
        rw [setD_eq] at h4
        obtain ⟨e', H', h5, h6⟩ := evReg_ok hph l (i + 1) r' _ _ k hr h4
        refine ⟨e', H', fun rd base w0 rho w a hp ht Q hq => ?_, h6⟩
        simp only [wpListIn, h2 _ _ (ht.gt ops o), if_true]
        refine wpIn_lift (h3 rd base w0 rho w a hp (ht.or o)) fun a1 w1 hk => ?_
        obtain ⟨cv, rfl, rho1, v1, p1, x1⟩ := hk
        exact h5 rd base w0 rho1 w1 _ p1 (put_ok (ht.mono x1.mu) hd v1) Q fun a' w' rho' q1 q2 q3 q4 => hq a' w' rho' (q1.trans (put_defers _ _ _)) q2 q3 (Ext.trans hp.lt x1 q4)
      · rw [setD_eq] at h1
        obtain ⟨e', H', h5, h6⟩ := evReg_ok hph l (i + 1) r' _ _ k hr h1
        refine ⟨e', H', fun rd base w0 rho w a hp ht Q hq => ?_, h6⟩
        simp only [wpListIn, h2 _ _ (ht.gt ops o), Bool.false_eq_true, if_false]
        refine ⟨fun _ _ => trivial, ?_⟩
        exact h5 rd base w0 rho w _ hp (put_ok ht hd vr_undef) Q fun a' w' rho' q1 q2 q3 q4 => hq a' w' rho' (q1.trans (put_defers _ _ _)) q2 q3 q4
    · cases hc
end Go.Ev
