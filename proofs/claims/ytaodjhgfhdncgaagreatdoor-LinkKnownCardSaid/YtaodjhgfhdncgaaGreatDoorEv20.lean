/- copy. -/
import Derived.Test.YtaodjhgfhdncgaaGreatDoorEv19
set_option linter.unusedSectionVars false
set_option linter.unusedVariables false
set_option linter.unusedSimpArgs false
namespace Go.Ev
open Go.RowKit

section
variable {P : Program} {nt : Nat} {o : Oper} {id : Nat} {ph : Phi} {e : Env} {H : Heap} {k : K}

theorem minN_ok {a b : Nat} {f : Nat → R} (h : minN a b f = 1) : f (Nat.min a b) = 1 := by
  rcases ifB_or h with ⟨h1, h2⟩ | ⟨h1, h2⟩
  · have := ble_of h1
    rw [show Nat.min a b = a from Nat.min_eq_left this]; exact h2
  · have : ¬ a ≤ b := fun hle => by rw [Nat.ble_eq_true_of_le hle] at h1; cases h1
    rw [show Nat.min a b = b from Nat.min_eq_right (by omega)]; exact h2

theorem s_copy {as : Array Operand} {ts : Array TypeId} (hop : o.op = .call { callee := .builtin .copy, args := as, argTypes := ts }) (h : evOp (compOp P nt o) id ph e H k = 1) : Good P nt o e H k := by
  simp only [compOp, hop, compBuiltin] at h
  have hnd : ∀ c, o.op ≠ .defer c := by simp [hop]
  split at h
  · rename_i d s t tr hx hts
    obtain ⟨p, q, rfl, hp', hq'⟩ := args2 hx
    have hts' : ts[0]? = some t := by rw [← Array.getElem?_toList, hts]; rfl
    split at h
    · rename_i el hel
      split at h
      · rename_i size hs
        obtain ⟨i, hi, hisz⟩ : ∃ i, P.info? el = some i ∧ i.size = size := by
          unfold szT at hs
          simp only [Option.map_eq_some_iff] at hs
          exact hs
        have hsz : ∀ w : World, (sizeOf el).run P w = .ok size w := fun w => by simp [sizeOf, typeInfo, hi, hisz]
        have h' : eCopy size d s id ph e H k = 1 := h
        unfold eCopy at h'
        rw [getA_eq, getA_eq] at h'
        have key : ∀ (v : V) (H' : Heap), (∀ (base : Nat) (w0 : World) (rho : Nat → Option Nat) (w : World) (cs cx : Value), PR P base w0 rho H w → VR (mu rho H w) (pgetA d e) cs → VR (mu rho H w) (pgetA s e) cx → ∃ cv w', (Builtin.copy_ ts o.type #[cs, cx]).run P w = .ok cv w' ∧ Left P base w0 rho H w v H' cv w') → OpS P nt o e H v H' := fun v H' hh =>
          OpS.of_run hnd fun base w0 rho w a hp ho => by
            obtain ⟨cv, w', h1, h2⟩ := hh base w0 rho w _ _ hp (ho p (by simp [hop, Op.operands, Call.operands]) d hp') (ho q (by simp [hop, Op.operands, Call.operands]) s hq')
            refine ⟨cv, w', ?_, h2⟩
            rw [builtin_ex hop a.eval]
            simp [builtin, h1]
        rcases vSliceN_ok h' with ⟨b, off, dl, cp, sz, hsv, h1⟩ | ⟨hsv, h1⟩
        · obtain ⟨sl, h2, hlen⟩ := lenSL_ok h1
          have h3 := minN_ok h2
          obtain ⟨n0, l, h4, hN⟩ := newCells_ok (P := P) h3
          obtain ⟨h5, h6⟩ := takeN_ok h4
          have hrun : ∀ {base : Nat} {w0 w : World} {rho : Nat → Option Nat} {cx : Value} (c o' cap : Nat), PR P base w0 rho H w → VR (mu rho H w) (pgetA s e) cx → ∃ cl : List Value, VRs (mu rho H w) (l.take (Nat.min sl dl * size)) cl ∧ ∀ w', (storeCells ⟨c, o', none⟩ cl 0).run P w = .ok () w' → (Builtin.copy_ ts o.type #[.slice (some ⟨c, o', none⟩) dl cap, cx]).run P w = .ok (.int .i64 (Nat.min sl dl)) w' := by
            intro base w0 w rho cx c o' cap hp vx
            have e1 := hlen _ _ vx w
            have e2 := hN.1 _ _ vx w
            rw [e1] at e2
            cases e2
            obtain ⟨hll, h7⟩ := hN.2 hp vx
            obtain ⟨cl, g1, g2⟩ := h7 (Nat.min sl dl) (Nat.min_le_left _ _)
            exact ⟨cl, g2, fun w' hw' => by simp [Builtin.copy_, hts', run_underlying (sliceT_ok hel), e1, hsz, g1, hw', goInt]⟩
          cases hmin : Nat.min sl dl with
          | zero =>
            rw [hmin] at h6
            have h7 : k (.int 3 0) H = 1 := h6
            refine ⟨_, _, key _ _ fun base w0 rho w cs cx hp vs vx => ?_, h7⟩
            rw [hsv] at vs
            simp only [VR] at vs
            obtain ⟨c, cap, o', rfl, hm, _⟩ := vs
            obtain ⟨cl, g1, g2⟩ := hrun c o' cap hp vx
            rw [hmin, Nat.zero_mul, List.take_zero] at g1
            simp only [VRs] at g1
            subst g1
            refine ⟨_, w, g2 w rfl, rho, ?_, hp, Ext.refl hp.lt⟩
            rw [hmin]
            exact vr_goInt (by omega)
          | succ m =>
            rw [hmin] at h6
            have h7 : storeN id H b off (l.take ((m + 1) * size)) (fun H => lenR id (m + 1) H k) = 1 := h6
            obtain ⟨H', h8, h9⟩ := storeN_pure (P := P) h7
            have hone := storeN_one h7
            obtain ⟨hlt, h8⟩ := lenR_ok h8
            refine ⟨_, _, key _ _ fun base w0 rho w cs cx hp vs vx => ?_, h8⟩
            rw [hsv] at vs
            simp only [VR] at vs
            obtain ⟨c, cap, o', rfl, hm, hle, hcp, ho'⟩ := vs
            have ho : o' = off := by
              rcases ho' with h | h
              · exact h
              · have : dl = 0 := by omega
                subst this
                have : Nat.min sl 0 = 0 := Nat.min_zero _
                omega
            subst ho
            obtain ⟨cl, g1, g2⟩ := hrun c o' cap hp vx
            rw [hmin] at g1
            obtain ⟨w', p1, p2, p3⟩ := h9 hp hm hone g1
            refine ⟨_, w', g2 w' p1, rho, ?_, p2, p3⟩
            rw [hmin]
            exact vr_goInt hlt
        · obtain ⟨n0, l, h4, hN⟩ := newCells_ok (P := P) h1
          refine ⟨_, _, key _ _ fun base w0 rho w cs cx hp vs vx => ?_, h4⟩
          rw [hsv] at vs
          simp only [VR] at vs
          subst vs
          have e1 := hN.1 _ _ vx w
          obtain ⟨hll, h7⟩ := hN.2 hp vx
          obtain ⟨cl, g1, g2⟩ := h7 0 (Nat.zero_le _)
          have hm0 : Nat.min n0 0 = 0 := Nat.min_zero _
          exact ⟨_, w, by simp [Builtin.copy_, hts', run_underlying (sliceT_ok hel), e1, hsz, hm0, g1], rho, vr_goInt (by omega), hp, Ext.refl hp.lt⟩
      · exact (no_ne h).elim
    · exact (no_ne h).elim
  · exact (no_ne h).elim
end
end Go.Ev
