/- Functions. -/
import Derived.Test.YtaodjhgfhdncgaaGreatDoorEv29
import Derived.Laws.Sem
set_option linter.unusedSectionVars false
set_option linter.unusedVariables false
set_option linter.unusedSimpArgs false
namespace Go.Ev
open Go.RowKit

theorem CallF.fs {P : Program} {f : Nat} {args caps : List V} {H H' : Heap} {v : V} (h : CallF P f (args ++ caps) H v H') : FSq P (.func (2 * f) caps) args H v H' := by
  refine ⟨fun rd base w0 rho w cx cargs hp hx ha o a => ?_, fun f' caps' e => by
    injection e with e1 e2
    have e1 : 2 * f = 2 * (f' : Nat) := e1
    obtain rfl : f = (f' : Nat) := by omega
    obtain rfl := e2
    exact h⟩
  simp only [VR] at hx
  obtain ⟨cs, rfl, hc⟩ := hx
  obtain ⟨h1, h2⟩ := h base w0 rho w (cargs ++ cs) hp (by simpa using ha.append hc)
  have he : (do let d ← Deferred.ofValue (.func (.func (2 * f / 2)) (if 2 * f % 2 = 0 then #[] else cs) (if 2 * f % 2 = 0 then cs else #[])) cargs; invoke d.target d.args : Sem Next).run P w = (callFunc f (cargs ++ cs)).run P w := by simp [Deferred.ofValue, invoke]
  rw [he, h1]
  refine ⟨fun h => absurd h (by simp), ?_⟩
  refine (CallsIn.mono h2 ?_ : CallsIn (WF none) 0 P f (cargs ++ cs) w _)
  rintro en w' ⟨cv, rfl, hl⟩
  exact ⟨cv, rfl, hl⟩
/-- A method's value: its receiver stands first. -/
theorem CallF.fsb {P : Program} {f : Nat} {args caps : List V} {H H' : Heap} {v : V} (h : CallF P f (caps ++ args) H v H') : FSq P (.func (2 * f + 1) caps) args H v H' := by
  refine ⟨fun rd base w0 rho w cx cargs hp hx ha o a => ?_, fun f' caps' e => by
    injection e with e1 e2
    have e1 : 2 * f + 1 = 2 * (f' : Nat) := e1
    omega⟩
  simp only [VR] at hx
  obtain ⟨cs, rfl, hc⟩ := hx
  obtain ⟨h1, h2⟩ := h base w0 rho w (cs ++ cargs) hp (by simpa using hc.append ha)
  have h3 : (2 * f + 1) % 2 = 1 := by omega
  have h4 : (2 * f + 1) / 2 = f := by omega
  have he : (do let d ← Deferred.ofValue (.func (.func ((2 * f + 1) / 2)) (if (2 * f + 1) % 2 = 0 then #[] else cs) (if (2 * f + 1) % 2 = 0 then cs else #[])) cargs; invoke d.target d.args : Sem Next).run P w = (callFunc f (cs ++ cargs)).run P w := by
    rw [h3, h4]
    simp [Deferred.ofValue, invoke]
  rw [he, h1]
  refine ⟨fun h => absurd h (by simp), ?_⟩
  refine (CallsIn.mono h2 ?_ : CallsIn (WF none) 0 P f (cs ++ cargs) w _)
  rintro en w' ⟨cv, rfl, hl⟩
  exact ⟨cv, rfl, hl⟩

/-! ### temporaries -/
theorem p8_same {α : Type} (i : I8) (x : α) : p8 i (.mk x x x x x x x x) = x := by cases i <;> rfl
theorem pget_env0 (s : Slot) : pget s env0 = .tup [] := by
  cases s with
  | mk a b c =>
    show p8 c (p8 b (p8 a (.mk u2 u2 u2 u2 u2 u2 u2 u2))) = _
    rw [p8_same]
    show p8 c (p8 b (.mk u1 u1 u1 u1 u1 u1 u1 u1)) = _
    rw [p8_same]
    show p8 c (.mk u0 u0 u0 u0 u0 u0 u0 u0) = _
    rw [p8_same]
    rfl
theorem setPs_ok : ∀ (n i : Nat) (args : List V) (e : Env) (k : Env → R), i + n ≤ 512 → setPs ((List.range' i n).map slotOf) args e k = 1 → ∃ e', k e' = 1 ∧ args.length = n ∧ (∀ t, t < 512 → pget (slotOf t) e' = if i ≤ t then (args[t - i]?).getD (pget (slotOf t) e) else pget (slotOf t) e)
  | 0, i, [], e, k, _, h => ⟨e, h, rfl, fun t _ => by simp⟩
  | 0, i, _ :: _, e, k, _, h => (no_ne h).elim
  | n + 1, i, [], e, k, _, h => (no_ne h).elim
  | n + 1, i, v :: args, e, k, hi, h => by
    have h' : setS (slotOf i) v e (fun e' => setPs ((List.range' (i + 1) n).map slotOf) args e' k) = 1 := h
    rw [setS_eq] at h'
    obtain ⟨e', h1, h2, h3⟩ := setPs_ok n (i + 1) args _ k (by omega) h'
    refine ⟨e', h1, by simp [h2], fun t ht => ?_⟩
    rcases Nat.lt_trichotomy t i with hlt | heq | hgt
    · have hne : slotOf t ≠ slotOf i := fun e => by have := slotOf_inj (by omega) (by omega) e; omega
      have e1 : pget (slotOf t) (pset (slotOf i) v e) = pget (slotOf t) e := by rw [pget_pset, if_neg hne]
      rw [h3 t ht, e1, if_neg (show ¬ i + 1 ≤ t by omega), if_neg (show ¬ i ≤ t by omega)]
    · subst heq
      rw [h3 t ht, if_neg (show ¬ t + 1 ≤ t by omega), if_pos (Nat.le_refl t), pget_pset, if_pos rfl]
      simp
    · have hne : slotOf t ≠ slotOf i := fun e => by have := slotOf_inj (by omega) (by omega) e; omega
      have e1 : pget (slotOf t) (pset (slotOf i) v e) = pget (slotOf t) e := by rw [pget_pset, if_neg hne]
      rw [h3 t ht, e1, if_pos (show i + 1 ≤ t by omega), if_pos (show i ≤ t by omega), show t - i = (t - (i + 1)) + 1 by omega, List.getElem?_cons_succ]

/-! ### results -/
section
variable {P : Program} {nt : Nat}

def resOne (tmps : Array Value) : ResultVar → Sem Value
  | .tmp t => pure (tmps.getD t undef)
  | .cell a t => do loadVar t (← asAddr (tmps.getD a undef))
theorem results_eq (fn : Func) (tmps : Array Value) : results fn tmps = (do let vs ← fn.results.mapM (resOne tmps); pure (if h : vs.size = 1 then vs[0] else .tuple vs)) := by
  unfold results
  congr 1

def GetsR (P : Program) (nt : Nat) (e : Env) (H : Heap) (r : ResultVar) (v : V) : Prop :=
  ∀ {base : Nat} {w0 w : World} {rho : Nat → Option Nat} {tmps : Array Value}, PR P base w0 rho H w → TR (mu rho H w) nt e tmps → ∃ c, (resOne tmps r).run P w = .ok c w ∧ VR (mu rho H w) v c

theorem tr_at {m : M} {e : Env} {tmps : Array Value} (h : TR m nt e tmps) {t : Nat} (ht : t < nt) : VR m (pget (slotOf t) e) (tmps.getD t undef) := by
  have hs := h.size
  have hex : tmps[t]? = some tmps[t] := Array.getElem?_eq_getElem (by omega)
  rw [Array.getD_eq_getD_getElem?, hex]
  exact h.get t _ hex

theorem getRs_ok : ∀ (l : List ResultVar) (rs : List RV) (e : Env) (H : Heap) (k : List V → R), compRes P nt l = some rs → getRs rs e H k = 1 →
    ∃ vs, k vs = 1 ∧ vs.length = l.length ∧ ∀ {base : Nat} {w0 w : World} {rho : Nat → Option Nat} {tmps : Array Value}, PR P base w0 rho H w → TR (mu rho H w) nt e tmps → ∃ cs, (l.mapM (resOne tmps)).run P w = .ok cs w ∧ VRs (mu rho H w) vs cs
  | [], rs, e, H, k, hc, h => by
    simp only [compRes, Option.some.injEq] at hc
    subst hc
    exact ⟨[], h, rfl, fun hp ht => ⟨[], rfl, by simp only [VRs]⟩⟩
  | r :: l, rs, e, H, k, hc, h => by
    have key : ∀ (q : RV) (qs : List RV), rs = q :: qs → compRes P nt l = some qs → (∀ f : V → R, getR q e H f = 1 → ∃ v, f v = 1 ∧ GetsR P nt e H r v) → ∃ vs, k vs = 1 ∧ vs.length = (r :: l).length ∧ ∀ {base : Nat} {w0 w : World} {rho : Nat → Option Nat} {tmps : Array Value}, PR P base w0 rho H w → TR (mu rho H w) nt e tmps → ∃ cs, ((r :: l).mapM (resOne tmps)).run P w = .ok cs w ∧ VRs (mu rho H w) vs cs := fun q qs hrs hqs hq => by
      subst hrs
      have h' : getR q e H (fun v => getRs qs e H fun ws => k (v :: ws)) = 1 := h
      obtain ⟨v, h1, h2⟩ := hq _ h'
      obtain ⟨vs, h3, h4, h5⟩ := getRs_ok l qs e H _ hqs h1
      refine ⟨v :: vs, h3, by simp [h4], fun hp ht => ?_⟩
      obtain ⟨c, g1, g2⟩ := h2 hp ht
      obtain ⟨cs, g3, g4⟩ := h5 hp ht
      exact ⟨c :: cs, by simp [List.mapM_cons, g1, g3], by simp only [VRs]; exact ⟨c, cs, rfl, g2, g4⟩⟩
    cases r with
    | tmp t =>
      simp only [compRes] at hc
      split at hc
      · rename_i qs hqs
        split at hc
        · rename_i hlt
          cases hc
          refine key _ _ rfl hqs fun f hf => ?_
          have hf' : getS (slotOf t) e f = 1 := hf
          rw [getS_eq] at hf'
          exact ⟨_, hf', fun hp ht => ⟨_, rfl, tr_at ht hlt⟩⟩
        · cases hc
      · cases hc
    | cell a t =>
      simp only [compRes] at hc
      split at hc
      · rename_i qs hqs hag
        split at hc
        · rename_i hlt
          cases hc
          refine key _ _ rfl hqs fun f hf => ?_
          have hf' : getS (slotOf a) e (fun v => vPtr 0 v fun b o => loadC 0 H b o f) = 1 := hf
          rw [getS_eq] at hf'
          obtain ⟨b, off, hb, h1⟩ := vPtr_ok hf'
          obtain ⟨row, v, h2, h3, h4⟩ := loadC_ok h1
          refine ⟨v, h4, fun {base w0 w rho tmps} hp ht => ?_⟩
          have vx := tr_at ht hlt
          rw [hb] at vx
          simp only [VR] at vx
          obtain ⟨c, hc, hm⟩ := vx
          obtain ⟨cv, g1, g2, _⟩ := hp.cell (hp.rho_of hm h2) h2 h3
          exact ⟨cv, by simp [resOne, hc, asAddr, loadVar, run_isAgg hag, g1], g2⟩
        · cases hc
      · rename_i qs n hqs hag hsz
        split at hc
        · rename_i hlt
          cases hc
          refine key _ _ rfl hqs fun f hf => ?_
          have hf' : getS (slotOf a) e (fun v => vPtr 0 v fun b o => loadN 0 H b o n fun l => f (.agg l)) = 1 := hf
          rw [getS_eq] at hf'
          obtain ⟨b, off, hb, h1⟩ := vPtr_ok hf'
          obtain ⟨row, h2, h3, h4⟩ := loadN_ok h1
          refine ⟨_, h4, fun {base w0 w rho tmps} hp ht => ?_⟩
          have vx := tr_at ht hlt
          rw [hb] at vx
          simp only [VR] at vx
          obtain ⟨c, hc, hm⟩ := vx
          obtain ⟨cs, g1, g2, g3⟩ := hp.cells (hp.rho_of hm h2) h2 h3
          exact ⟨.agg cs.toArray, by simp [resOne, hc, asAddr, loadVar, run_isAgg hag, run_sizeOf' hsz, g1], by simp only [VR]; exact ⟨_, rfl, g2⟩⟩
        · cases hc
      · cases hc
end

theorem retV_ok {l : List V} {k : V → R} (h : retV l k = 1) : ∃ v, k v = 1 ∧ ∀ (m : M) (cs : List Value), VRs m l cs → VR m v (if h : cs.toArray.size = 1 then cs.toArray[0] else .tuple cs.toArray) := by
  cases l with
  | nil =>
    refine ⟨_, h, fun m cs hv => ?_⟩
    simp only [VRs] at hv
    subst hv
    simp only [VR]
    exact ⟨#[], rfl, by simp only [VRs]⟩
  | cons v l =>
    cases l with
    | nil =>
      refine ⟨v, h, fun m cs hv => ?_⟩
      simp only [VRs] at hv
      obtain ⟨c, r, rfl, h1, rfl⟩ := hv
      exact h1
    | cons u l =>
      refine ⟨_, h, fun m cs hv => ?_⟩
      have := hv.length
      simp only [List.length_cons] at this
      rw [dif_neg (by simp; omega)]
      simp only [VR]
      exact ⟨_, rfl, hv⟩
end Go.Ev
