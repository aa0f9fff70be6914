/- A region that draws its order: its operations in the order of the text. -/
import Derived.Test.YtaodjhgfhdncgaaGreatDoorEv23
set_option linter.unusedSectionVars false
set_option linter.unusedVariables false
set_option linter.unusedSimpArgs false
namespace Go.Ev
open Go.RowKit

def StepOK (P : Program) (nt : Nat) (ops : Array Oper) (iso pur : Bool) (B : Option Nat) (o : Oper) (e : Env) (H : Heap) (v : V) (e' : Env) (H' : Heap) : Prop :=
  ∃ d, dstOf nt o.dst = some d ∧ e' = psetD d v e ∧
    ((GW nt e ops o false ∧ v = .tup [] ∧ H' = H) ∨
     (GW nt e ops o true ∧ pur = true ∧ H' = H ∧ ∀ H2 : Heap, (∀ b, B = some b → H2.get b = H.get b) → OpS P nt o e H2 v H2) ∨
     (GW nt e ops o true ∧ pur = false ∧ iso = true ∧ OpS P nt o e H v H') ∨
     (GW nt e ops o true ∧ pur = false ∧ iso = false ∧ ∃ H1 H1' : Heap, H1.n = H.n ∧ (∀ b, H1.get b = H.get b) ∧ H1.wlo = H.n ∧ OpS P nt o e H1 v H1' ∧ H.n ≤ H1'.wlo ∧ H'.n = H1'.n ∧ (∀ b, H'.get b = H1'.get b) ∧ H'.wlo = H.wlo))

/-- A new block, in whatever world; what it holds is known of all worlds. -/
def AlOK (P : Program) (o : Oper) (H : Heap) (v : V) (H' : Heap) : Prop := ∃ (bl : Blk) (ob : Obj), v = .ptr H.n 0 ∧ NewTo H bl H' ∧ bl.alive ∧ bl ≠ .mark ∧ (∀ m, BR P m bl ob) ∧
  ∀ (rd : Option Nat) (w : World) (a : Act), o.wpIn (WF rd) 0 P a w (fun a' w' => a' = a.put o.dst (.pointer (some ⟨w.heap.size, 0, none⟩)) ∧ w' = w.alloc ob) (fun _ _ _ => False)
theorem AlOK.ops {P : Program} {nt : Nat} {o : Oper} {e : Env} {H H' : Heap} {v : V} (h : AlOK P o H v H') : OpS P nt o e H v H' := fun rd base w0 rho w a hp ho => by
  obtain ⟨bl, ob, rfl, hN, ha, hm, hb, hx⟩ := h
  refine wpIn_lift (hx rd w a) fun a' w' hk => ?_
  obtain ⟨rfl, rfl⟩ := hk
  obtain ⟨p1, p2⟩ := hp.alloc (w' := w.alloc ob) (o := ob) hN.n hN.wlo hN.get hN.oth ha ⟨rfl, rfl, rfl⟩ (by simp) (World.alloc_heap_new w _) (fun j hj => Below.heap_alloc _ _ _ hj) (hb _)
  exact ⟨_, rfl, _, by simp only [VR]; exact ⟨_, rfl, by rw [hN.n]; omega, fun _ => by simp⟩, p1, p2⟩
theorem al_aggL {P : Program} {op : BinOp} {t : TypeId} {c : List Nat} {x y : Arg} : isAl (compAggL P op t c x y) = false := by
  unfold compAggL
  (repeat' split) <;> rfl
theorem al_eqv {k : Nat} {op : BinOp} {x y : Arg} : isAl (eqvOp k op x y) = false := by
  unfold eqvOp
  (repeat' split) <;> rfl
theorem al_bin {P : Program} {op : BinOp} {xt yt : TypeId} {x y : Arg} : isAl (compBin P op xt yt x y) = false := by
  unfold compBin compAggEq compArrEq
  (repeat' split) <;> first | rfl | exact al_eqv | exact al_aggL
theorem al_conv {k k' : IntKind} {x : Arg} : isAl (convOp k k' x) = false := by
  unfold convOp
  (repeat' split) <;> rfl
theorem al_builtin {P : Program} {nt : Nat} {b : Builtin} {as : List Operand} {ts : List TypeId} : isAl (compBuiltin P nt b as ts) = false := by
  unfold compBuiltin
  (repeat' split) <;> rfl
theorem al_ok {P : Program} {nt : Nat} {o : Oper} {id : Nat} {ph : Phi} {e : Env} {H : Heap} {k : K} (hal : isAl (compOp P nt o) = true) (h : evOp (compOp P nt o) id ph e H k = 1) : ∃ v H', AlOK P o H v H' ∧ k v H' = 1 := by
  have hop : ∃ t, o.op = .alloc t := by
    unfold compOp at hal
    split at hal <;> first
      | exact ⟨_, by assumption⟩
      | (exfalso; revert hal; (repeat' split) <;> first | (rw [al_bin]; simp; done) | (rw [al_conv]; simp; done) | (rw [al_builtin]; simp; done) | simp [isAl])
  obtain ⟨t, hop⟩ := hop
  simp only [compOp, hop] at h
  have hnd : ∀ c, o.op ≠ .defer c := by simp [hop]
  have key : ∀ (z : List V) (bl : Blk), zeroT P t = some z → rowOf bl = some z → (∀ len n, bl = .bytes len n → n < 256 ^ len) → bl ≠ .mark → (hNew H bl fun n H => k (.ptr n 0) H) = 1 → ∃ v H', AlOK P o H v H' ∧ k v H' = 1 := by
    intro z bl hz hrow hcan hmk h'
    obtain ⟨H', h1, h2⟩ := hNew_ok h'
    obtain ⟨i, zv, hi, hzv, hvr, hone⟩ := zeroT_ok hz
    refine ⟨_, H', ⟨bl, .cells zv.cells t, rfl, h2, (rowOf_alive hrow).1, hmk, fun m => BR_of_row hrow hcan (RowR.exact (hvr _) hone), fun rd w a => ⟨about_any P o a w rd, ?_⟩⟩, h1⟩
    rw [semAt_eq hnd]
    have hex : (execOp a.eval o).run P w = .ok (.value (.pointer (some ⟨w.heap.size, 0, none⟩))) (w.alloc (.cells zv.cells t)) := by
      simp [execOp, hop, Instr.alloc, zeroValue, typeInfo, hi, hzv, newVar, newRow]
    rw [hex]
    exact ⟨rfl, rfl⟩
  split at h
  · rename_i z n el hz hu
    split at h
    · rename_i hc
      simp only [Bool.and_eq_true, beq_iff_eq] at hc
      have hzz := z8_ok hc.1
      rw [hc.2] at hzz
      exact key z (.bytes n 0) hz (by rw [hzz]; rfl) (fun len m e => by cases e; exact Nat.pow_pos (by decide)) (by simp) h
    · exact key z (.cells z) hz rfl (fun len m e => by cases e) (by simp) h
  · exact key _ (.cells _) (by assumption) rfl (fun len m e => by cases e) (by simp) h
  · exact (no_ne h).elim

def ncons {α : Type} (a : α) (f : Nat → α) : Nat → α
  | 0 => a
  | j + 1 => f j

theorem evDreg_ok {P : Program} {nt : Nat} {ph : Phi} {ops : Array Oper} {base : Nat} {pl al : List Bool} {bf : Array Nat} (hph : PhiOK P ph) : ∀ (l : List Oper) (i : Nat) (r : List OpW) (e : Env) (H : Heap) (k : Env → Heap → R), compRegG P nt base ops pl al bf l i = some r → evDreg ph r e H k = 1 →
    ∃ (E : Nat → Env) (Hh : Nat → Heap) (Vv : Nat → V), E 0 = e ∧ Hh 0 = H ∧ (∀ j o, l[j]? = some o → StepOK P nt ops (isolatedA pl al bf (i + j)) (pureOp (compOp P nt o)) none o (E j) (Hh j) (Vv j) (E (j + 1)) (Hh (j + 1))) ∧ (∀ j o, l[j]? = some o → isAl (compOp P nt o) = true → isolatedA pl al bf (i + j) = false → (GW nt (E j) ops o false ∧ Vv j = .tup [] ∧ Hh (j + 1) = Hh j) ∨ AlOK P o (Hh j) (Vv j) (Hh (j + 1))) ∧ k (E l.length) (Hh l.length) = 1
  | [], i, r, e, H, k, hc, h => by
    simp only [compRegG, Option.some.injEq] at hc
    subst hc
    exact ⟨fun _ => e, fun _ => H, fun _ => .nilp, rfl, rfl, fun j o hj => by simp at hj, fun j o hj => by simp at hj, h⟩
  | o :: l, i, r, e, H, k, hc, h => by
    simp only [compRegG] at hc
    split at hc
    · rename_i d g r' hd hg hr
      cases hc
      have fin : ∀ (v : V) (H1 : Heap), StepOK P nt ops (isolatedA pl al bf i) (pureOp (compOp P nt o)) none o e H v (psetD d v e) H1 → (isAl (compOp P nt o) = true → isolatedA pl al bf i = false → (GW nt e ops o false ∧ v = .tup [] ∧ H1 = H) ∨ AlOK P o H v H1) → evDreg ph r' (psetD d v e) H1 k = 1 → ∃ (E : Nat → Env) (Hh : Nat → Heap) (Vv : Nat → V), E 0 = e ∧ Hh 0 = H ∧ (∀ j o', (o :: l)[j]? = some o' → StepOK P nt ops (isolatedA pl al bf (i + j)) (pureOp (compOp P nt o')) none o' (E j) (Hh j) (Vv j) (E (j + 1)) (Hh (j + 1))) ∧ (∀ j o', (o :: l)[j]? = some o' → isAl (compOp P nt o') = true → isolatedA pl al bf (i + j) = false → (GW nt (E j) ops o' false ∧ Vv j = .tup [] ∧ Hh (j + 1) = Hh j) ∨ AlOK P o' (Hh j) (Vv j) (Hh (j + 1))) ∧ k (E (o :: l).length) (Hh (o :: l).length) = 1 := fun v H1 hs ha hev => by
        obtain ⟨E, Hh, Vv, h1, h2, h3, h5, h4⟩ := evDreg_ok hph l (i + 1) r' _ _ k hr hev
        refine ⟨ncons e E, ncons H Hh, ncons v Vv, rfl, rfl, fun j o' hj => ?_, fun j o' hj q1 q2 => ?_, h4⟩
        rotate_left
        · cases j with
          | zero =>
            simp only [List.getElem?_cons_zero, Option.some.injEq] at hj
            subst hj
            show (GW nt e ops o false ∧ v = .tup [] ∧ Hh 0 = H) ∨ AlOK P o H v (Hh 0)
            rw [h2]
            exact ha q1 q2
          | succ j =>
            have := h5 j o' (by simpa using hj) q1
            rw [show i + 1 + j = i + (j + 1) by omega] at this
            exact this q2
        cases j with
        | zero =>
          simp only [List.getElem?_cons_zero, Option.some.injEq] at hj
          subst hj
          show StepOK P nt ops (isolatedA pl al bf (i + 0)) _ none o e H v (E 0) (Hh 0)
          rw [h1, h2]
          exact hs
        | succ j =>
          have := h3 j o' (by simpa using hj)
          rw [show i + 1 + j = i + (j + 1) by omega] at this
          exact this
      have h' : wantG g e (Nat.rec (motive := fun _ => R) (evOp (compOp P nt o) (base + i) ph e H fun v H' => setD d v e fun e' => evDreg ph r' e' H' k) (fun _ _ => Heap.rec (motive := fun _ => R) (fun n wlo t => evOp (compOp P nt o) (base + i) ph e (.mk n n t) fun v H' => Heap.rec (motive := fun _ => R) (fun n' wlo' t' => ifB (Nat.ble n wlo') (setD d v e fun e' => evDreg ph r' e' (.mk n' wlo t') k) (no 0)) H') H) (if (pureOp (compOp P nt o) || isolatedA pl al bf i) = true then 0 else 1)) (setD d (.tup []) e fun e' => evDreg ph r' e' H k) = 1 := h
      rcases wantG_or hg h' with ⟨h1, h2⟩ | ⟨h1, h2⟩
      · by_cases hpu : pureOp (compOp P nt o) = true
        · rw [if_pos (by simp [hpu])] at h1
          obtain ⟨v, h3, h4⟩ := pure_any hph hpu (show evOp (compOp P nt o) (base + i) ph e H (fun v H' => setD d v e fun e' => evDreg ph r' e' H' k) = 1 from h1)
          have h4' : setD d v e (fun e' => evDreg ph r' e' H k) = 1 := h4
          rw [setD_eq] at h4'
          exact fin v H ⟨d, hd, rfl, Or.inr (Or.inl ⟨h2, hpu, rfl, fun H2 _ => h3 H2⟩)⟩ (fun q => absurd q (by cases hcc : compOp P nt o <;> rw [hcc] at hpu <;> simp [isAl, pureOp] at hpu ⊢)) h4'
        · by_cases his : isolatedA pl al bf i = true
          · rw [if_pos (by simp [his])] at h1
            obtain ⟨v, H1, h3, h4⟩ := evOp_sound hph (show evOp (compOp P nt o) (base + i) ph e H (fun v H' => setD d v e fun e' => evDreg ph r' e' H' k) = 1 from h1)
            have h4' : setD d v e (fun e' => evDreg ph r' e' H1 k) = 1 := h4
            rw [setD_eq] at h4'
            exact fin v H1 ⟨d, hd, rfl, Or.inr (Or.inr (Or.inl ⟨h2, by simpa using hpu, his, h3⟩))⟩ (fun _ q => absurd (his.symm.trans q) (by simp)) h4'
          · rw [if_neg (by simp [hpu, his])] at h1
            cases H with
            | mk n wlo t =>
              have h1' : evOp (compOp P nt o) (base + i) ph e (.mk n n t) (fun v H' => Heap.rec (motive := fun _ => R) (fun n' wlo' t' => ifB (Nat.ble n wlo') (setD d v e fun e' => evDreg ph r' e' (.mk n' wlo t') k) (no 0)) H') = 1 := h1
              by_cases hal : isAl (compOp P nt o) = true
              · obtain ⟨v, H1, h3, h4⟩ := al_ok hal h1'
                cases H1 with
                | mk n' wlo' t' =>
                  have h4' : ifB (Nat.ble n wlo') (setD d v e fun e' => evDreg ph r' e' (.mk n' wlo t') k) (no 0) = 1 := h4
                  obtain ⟨h5, h6⟩ := ifB_no h4'
                  rw [setD_eq] at h6
                  obtain ⟨bl, ob, g1, g2, g3⟩ := h3
                  exact fin v (.mk n' wlo t') ⟨d, hd, rfl, Or.inr (Or.inr (Or.inr ⟨h2, by simpa using hpu, by simpa using his, .mk n n t, .mk n' wlo' t', rfl, fun _ => rfl, rfl, AlOK.ops ⟨bl, ob, g1, g2, g3⟩, ble_of h5, rfl, fun _ => rfl, rfl⟩))⟩ (fun _ _ => Or.inr ⟨bl, ob, g1, ⟨g2.n, rfl, g2.get, g2.oth⟩, g3⟩) h6
              · obtain ⟨v, H1, h3, h4⟩ := evOp_sound hph h1'
                cases H1 with
                | mk n' wlo' t' =>
                  have h4' : ifB (Nat.ble n wlo') (setD d v e fun e' => evDreg ph r' e' (.mk n' wlo t') k) (no 0) = 1 := h4
                  obtain ⟨h5, h6⟩ := ifB_no h4'
                  rw [setD_eq] at h6
                  exact fin v (.mk n' wlo t') ⟨d, hd, rfl, Or.inr (Or.inr (Or.inr ⟨h2, by simpa using hpu, by simpa using his, .mk n n t, .mk n' wlo' t', rfl, fun _ => rfl, rfl, h3, ble_of h5, rfl, fun _ => rfl, rfl⟩))⟩ (fun q => absurd q hal) h6
      · rw [setD_eq] at h1
        exact fin _ H ⟨d, hd, rfl, Or.inl ⟨h2, rfl, rfl⟩⟩ (fun _ _ => Or.inl ⟨h2, rfl, rfl⟩) h1
    · cases hc
end Go.Ev
