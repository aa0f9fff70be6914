/- ONE OPERATION: what the evaluator does is what the model does. -/
import Derived.Test.YtaodjhgfhdncgaaGreatDoorEv7
import Derived.TacticsIn
set_option linter.unusedSectionVars false
set_option linter.unusedVariables false
set_option linter.unusedSimpArgs false
namespace Go.Ev
open Go.RowKit

abbrev WF (rd : Option Nat) : Fence := { fn := fun _ => True, depth := none, alive := false, round := rd }

def pgetA (a : Arg) (e : Env) : V := match a with
  | .s s => pget s e
  | .c v => v
theorem getA_eq (a : Arg) (e : Env) (k : V → R) : getA a e k = k (pgetA a e) := by
  cases a with
  | s s => exact getS_eq s e k
  | c v => rfl
theorem getAs_eq : ∀ (l : List Arg) (e : Env) (k : List V → R), getAs l e k = k (l.map (pgetA · e))
  | [], _, _ => rfl
  | a :: l, e, k => by
    show getA a e (fun v => getAs l e fun r => k (v :: r)) = _
    rw [getA_eq, getAs_eq]; rfl

/-! ### constants -/
theorem constV1_ok {mu : M} {v : Value} {u : V} (h : constV1 v = some u) : VR mu u v ∧ u.one = true := by
  unfold constV1 at h
  split at h
  · cases h; exact ⟨by simp only [VR], rfl⟩
  · rename_i k n
    split at h
    · rename_i hw
      have hw' : k.wrap n = n := by simpa using hw
      cases h
      refine ⟨?_, rfl⟩
      have hp : (0 : Int) < 2 ^ k.bits := by cases k <;> decide
      have hm0 : 0 ≤ n % (2 ^ k.bits : Nat) := Int.emod_nonneg _ (by cases k <;> decide)
      have hm1 : n % (2 ^ k.bits : Nat) < (2 ^ k.bits : Nat) := Int.emod_lt_of_pos _ (by cases k <;> decide)
      simp only [VR, kKind_kOf]
      refine ⟨?_, ?_, kOf_lt k⟩
      · congr 1
        show n = k.wrap _
        rw [Int.toNat_of_nonneg hm0]
        conv => lhs; rw [← hw']
        unfold IntKind.wrap
        simp
      · unfold kMod
        omega
    · cases h
  · rename_i s
    cases h
    refine ⟨?_, rfl⟩
    simp only [VR]
    rw [sbytes_enc]
    exact ⟨rfl, enc_lt _⟩
  all_goals first | (cases h; exact ⟨by simp only [VR], rfl⟩) | cases h
theorem consts_ok {mu : M} : ∀ {l : List Value} {r : List V}, consts l = some r → VRs mu r l ∧ ∀ u ∈ r, u.one = true
  | [], r, h => by simp only [consts, Option.some.injEq] at h; subst h; exact ⟨by simp only [VRs], fun _ h => absurd h (by simp)⟩
  | v :: l, r, h => by
    simp only [consts] at h
    split at h
    · rename_i u r' h1 h2
      cases h
      obtain ⟨h3, h4⟩ := constV1_ok (mu := mu) h1
      obtain ⟨h5, h6⟩ := consts_ok (mu := mu) h2
      exact ⟨by simp only [VRs]; exact ⟨v, l, rfl, h3, h5⟩, fun x hx => (List.mem_cons.1 hx).elim (fun e => e ▸ h4) (h6 x)⟩
    · cases h
theorem constV_ok {mu : M} {v : Value} {u : V} (h : constV v = some u) : VR mu u v := by
  unfold constV at h
  split at h
  · simp only [Option.map_eq_some_iff] at h
    obtain ⟨r, h1, rfl⟩ := h
    simp only [VR]
    exact ⟨_, rfl, (consts_ok h1).1⟩
  · simp only [Option.map_eq_some_iff] at h
    obtain ⟨r, h1, rfl⟩ := h
    simp only [VR]
    exact ⟨_, rfl, (consts_ok h1).1⟩
  · exact (constV1_ok h).1

theorem compArg_ok {mu : M} {nt : Nat} {e : Env} {a : Act} {x : Operand} {ar : Arg} (ht : TR mu nt e a.tmps) (h : compArg nt x = some ar) : VR mu (pgetA ar e) (a.eval x) := by
  unfold compArg at h
  split at h
  · rename_i t
    split at h
    · rename_i hlt
      cases h
      have hs := ht.size
      have hlt' : t < a.tmps.size := by rw [hs]; exact hlt
      have hex : a.tmps[t]? = some a.tmps[t] := Array.getElem?_eq_getElem hlt'
      have := ht.get t _ hex
      simpa [pgetA, Act.eval, hex] using this
    · cases h
  · simp only [Option.map_eq_some_iff] at h
    obtain ⟨u, h1, rfl⟩ := h
    exact constV_ok h1
  · cases h
    simp only [pgetA, Act.eval, VR]
    exact ⟨#[], by simp, by simp only [VRs]⟩
  · cases h

/-- The operands stand for what they should. -/
def OR (mu : M) (nt : Nat) (e : Env) (a : Act) (o : Oper) : Prop := ∀ x ∈ o.op.operands, ∀ ar, compArg nt x = some ar → VR mu (pgetA ar e) (a.eval x)
theorem TR.or {mu : M} {nt : Nat} {e : Env} {a : Act} (h : TR mu nt e a.tmps) (o : Oper) : OR mu nt e a o := fun _ _ _ h1 => compArg_ok h h1

/-- What is left behind an operation, or a call. -/
def Left (P : Program) (base : Nat) (w0 : World) (rho : Nat → Option Nat) (H : Heap) (w : World) (v : V) (H' : Heap) (cv : Value) (w' : World) : Prop :=
  ∃ rho', VR (mu rho' H' w') v cv ∧ PR P base w0 rho' H' w' ∧ Ext rho H w rho' H' w'

def OpS (P : Program) (nt : Nat) (o : Oper) (e : Env) (H : Heap) (v : V) (H' : Heap) : Prop :=
  ∀ (rd : Option Nat) (base : Nat) (w0 : World) (rho : Nat → Option Nat) (w : World) (a : Act), PR P base w0 rho H w → OR (mu rho H w) nt e a o →
    o.wpIn (WF rd) 0 P a w (fun a' w' => ∃ cv, a' = a.put o.dst cv ∧ Left P base w0 rho H w v H' cv w') (fun _ _ _ => False)

/-- What a call of a function value does. -/
def FSp (P : Program) (x : V) (args : List V) (H : Heap) (v : V) (H' : Heap) : Prop :=
  ∀ (rd : Option Nat) (base : Nat) (w0 : World) (rho : Nat → Option Nat) (w : World) (cx : Value) (cargs : Array Value), PR P base w0 rho H w → VR (mu rho H w) x cx → VRs (mu rho H w) args cargs.toList →
    ∀ (o : Oper) (a : Act), o.uponIn (WF rd) 0 P a (fun a' w' => ∃ cv, a' = a.put o.dst cv ∧ Left P base w0 rho H w v H' cv w') (fun _ _ _ => False) ((do let d ← Deferred.ofValue cx cargs; invoke d.target d.args : Sem Next).run P w)
/-- What a function does, called with all it takes. -/
def CallF (P : Program) (f : FuncId) (args : List V) (H : Heap) (v : V) (H' : Heap) : Prop :=
  ∀ (base : Nat) (w0 : World) (rho : Nat → Option Nat) (w : World) (cargs : Array Value), PR P base w0 rho H w → VRs (mu rho H w) args cargs.toList →
    (callFunc f cargs).run P w = .ok (.enter f cargs) w ∧ CallsIn (WF none) 0 P f cargs w fun e w' => ∃ cv, e = .returned cv ∧ Left P base w0 rho H w v H' cv w'
def FSq (P : Program) (x : V) (args : List V) (H : Heap) (v : V) (H' : Heap) : Prop := FSp P x args H v H' ∧ ∀ f caps, x = .func (2 * f) caps → CallF P f (args ++ caps) H v H'
def PhiOK (P : Program) (ph : Phi) : Prop := ∀ x args H k, ph x args H k = 1 → ∃ v H', FSq P x args H v H' ∧ k v H' = 1

theorem about_any (P : Program) (o : Oper) (a : Act) (w : World) (rd : Option Nat) : ∀ f, o.about P w a.eval = some f → (WF rd).fn f := fun _ _ => trivial

theorem semAt_eq {o : Oper} {rd : Option Nat} {r : Operand → Value} (h : ∀ c, o.op ≠ .defer c) : o.semAt rd r = execOp r o := by
  unfold Oper.semAt
  split
  · rename_i l c h1
    first | exact absurd h1 (h c) | exact absurd rfl (h c)
  · rfl

theorem OpS.of_run {P : Program} {nt : Nat} {o : Oper} {e : Env} {H H' : Heap} {v : V} (hnd : ∀ c, o.op ≠ .defer c)
    (h : ∀ (base : Nat) (w0 : World) (rho : Nat → Option Nat) (w : World) (a : Act), PR P base w0 rho H w → OR (mu rho H w) nt e a o → ∃ cv w', (execOp a.eval o).run P w = .ok (.value cv) w' ∧ Left P base w0 rho H w v H' cv w') : OpS P nt o e H v H' := by
  intro rd base w0 rho w a hp ho
  obtain ⟨cv, w', h1, h2⟩ := h base w0 rho w a hp ho
  refine ⟨about_any P o a w rd, ?_⟩
  rw [semAt_eq hnd, h1]
  exact ⟨cv, rfl, h2⟩
theorem OpS.of_skip {P : Program} {nt : Nat} {o : Oper} {e : Env} {H H' : Heap} (hnd : ∀ c, o.op ≠ .defer c)
    (h : ∀ (base : Nat) (w0 : World) (rho : Nat → Option Nat) (w : World) (a : Act), PR P base w0 rho H w → OR (mu rho H w) nt e a o → ∃ w', (execOp a.eval o).run P w = .ok .skip w' ∧ ∃ rho', PR P base w0 rho' H' w' ∧ Ext rho H w rho' H' w') : OpS P nt o e H (.tup []) H' := by
  intro rd base w0 rho w a hp ho
  obtain ⟨w', h1, rho', h2, h3⟩ := h base w0 rho w a hp ho
  refine ⟨about_any P o a w rd, ?_⟩
  rw [semAt_eq hnd, h1]
  exact ⟨undef, rfl, rho', by simp only [VR]; exact ⟨#[], rfl, by simp only [VRs]⟩, h2, h3⟩
/-- An operation that touches no memory. -/
theorem OpS.of_pure {P : Program} {nt : Nat} {o : Oper} {e : Env} {H : Heap} {v : V} (hnd : ∀ c, o.op ≠ .defer c)
    (h : ∀ (m : M) (w : World) (a : Act), OR m nt e a o → ∃ cv, (execOp a.eval o).run P w = .ok (.value cv) w ∧ VR m v cv) : OpS P nt o e H v H :=
  OpS.of_run hnd fun base w0 rho w a hp ho => by
    obtain ⟨cv, h1, h2⟩ := h _ w a ho
    exact ⟨cv, w, h1, rho, h2, hp, Ext.refl hp.lt⟩

section
variable {P : Program} {nt : Nat} {o : Oper} {id : Nat} {ph : Phi} {e : Env} {H : Heap} {k : K}

def Good (P : Program) (nt : Nat) (o : Oper) (e : Env) (H : Heap) (k : K) : Prop := ∃ v H', OpS P nt o e H v H' ∧ k v H' = 1

theorem s_move {x : Operand} (hop : o.op = .move x ∨ o.op = .assign x) (h : evOp (compOp P nt o) id ph e H k = 1) : Good P nt o e H k := by
  have hc : compOp P nt o = match compArg nt x with | some a => .mov a | none => .bad := by rcases hop with h | h <;> simp only [compOp, h] <;> rfl
  rw [hc] at h
  split at h
  · rename_i a ha
    have h' : getA a e (fun v => k v H) = 1 := h
    rw [getA_eq] at h'
    refine ⟨_, _, OpS.of_pure (by rcases hop with h | h <;> simp [h]) fun m w ac ho => ?_, h'⟩
    exact ⟨ac.eval x, by rcases hop with h | h <;> simp [execOp, h], ho x (by rcases hop with h | h <;> simp [Op.operands, h]) a ha⟩
  · exact (no_ne h).elim
theorem s_pick {c x y : Operand} (hop : o.op = .pick c x y) (h : evOp (compOp P nt o) id ph e H k = 1) : Good P nt o e H k := by
  simp only [compOp, hop] at h
  split at h
  · rename_i c' x' y' hc hx hy
    have h' : getA c' e (fun c => vBool id c fun b => ifB b (getA x' e fun v => k v H) (getA y' e fun v => k v H)) = 1 := h
    rw [getA_eq] at h'
    obtain ⟨b, hb, h2⟩ := vBool_ok h'
    rw [getA_eq, getA_eq] at h2
    cases b
    · refine ⟨_, _, OpS.of_pure (by simp [hop]) fun m w ac ho => ?_, h2⟩
      have h3 := ho c (by simp [Op.operands, hop]) c' hc
      rw [hb] at h3
      simp only [VR] at h3
      exact ⟨ac.eval y, by simp [execOp, hop, h3, asBool], ho y (by simp [Op.operands, hop]) y' hy⟩
    · refine ⟨_, _, OpS.of_pure (by simp [hop]) fun m w ac ho => ?_, h2⟩
      have h3 := ho c (by simp [Op.operands, hop]) c' hc
      rw [hb] at h3
      simp only [VR] at h3
      exact ⟨ac.eval x, by simp [execOp, hop, h3, asBool], ho x (by simp [Op.operands, hop]) x' hx⟩
  · exact (no_ne h).elim
end
end Go.Ev
