/- STORES, LITERALS, CONVERSIONS. -/
import Derived.Test.YtaodjhgfhdncgaaGreatDoorEv12
set_option linter.unusedSectionVars false
set_option linter.unusedVariables false
set_option linter.unusedSimpArgs false
namespace Go.Ev
open Go.RowKit

section
variable {P : Program} {nt : Nat} {o : Oper} {id : Nat} {ph : Phi} {e : Env} {H : Heap} {k : K}

/-- Without a world: what a store of these cells does to the abstract heap. -/
theorem storeN_pure {b off : Nat} {m : List V} {f : Heap → R} (h : storeN id H b off m f = 1) : ∃ H', f H' = 1 ∧ ∀ {base : Nat} {w0 w : World} {rho : Nat → Option Nat} {c : Nat} {ms : List Value}, PR P base w0 rho H w → (mu rho H w).b b c → (∀ v ∈ m, v.one = true) → VRs (mu rho H w) m ms →
    ∃ w', (storeCells ⟨c, off, none⟩ ms 0).run P w = .ok () w' ∧ PR P base w0 rho H' w' ∧ Ext rho H w rho H' w' := by
  have h0 := h
  unfold storeN at h
  rw [hGet_eq] at h
  rcases bOn_ok h with ⟨l, hb, h2⟩ | ⟨len, x, hb, h2⟩
  · obtain ⟨_, h2⟩ := allOne_ok h2
    obtain ⟨h3, h4⟩ := setAt_ok h2
    obtain ⟨H', h5, h6⟩ := hSet_ok h4
    refine ⟨H', h5, fun {base w0 w rho c ms} hp hm hone hv => ?_⟩
    have hms : ∀ u ∈ ms, u.oneCell' = true := vrs_one hv hone
    have hrow : rowOf (H.get b) = some l := by rw [hb]; rfl
    have hr := hp.rho_of hm hrow
    obtain ⟨cs, el, fr, h7, h8⟩ := hp.row hr hrow
    have hle := h8.le
    obtain ⟨w', cur', g1, g2, g3, g4, g5, g6, g7⟩ := run_storeCells (P := P) (o := off) ms 0 cs w h7 (by rw [hv.length]; omega) hms h8.2
    obtain ⟨p1, p2⟩ := hp.write (H' := H') (w' := w') hr (by rw [hb]; intro e; cases e) h6.n h6.wlo h6.wb h6.get h6.oth trivial g7 g6 g2 g5 ⟨cur', el, fr, rfl, h8.splice hv hone h3 g3 g4, by rw [g3]; exact hp.nstr hr hb h7⟩ (fun cs2 e2 fr2 h => by rw [h7] at h; cases h; exact ⟨cur', el, fr, rfl, g3⟩)
    exact ⟨w', g1, p1, p2⟩
  · obtain ⟨mx, h3, h30, h4⟩ := packB_ok h2
    obtain ⟨h5, h6⟩ := ifB_no h3
    rw [forceN_eq] at h6
    obtain ⟨H', h7, h8⟩ := hSet_ok h6
    refine ⟨H', h7, fun {base w0 w rho c ms} hp hm hone hv => ?_⟩
    have hms : ∀ u ∈ ms, u.oneCell' = true := vrs_one hv hone
    obtain ⟨h9, h10⟩ := h4 hv.small
    have hle : off + m.length ≤ len := ble_of h5
    have hrow : rowOf (H.get b) = some ((sbytes len x).map byteV) := by rw [hb]; rfl
    have hr := hp.rho_of hm hrow
    obtain ⟨o, q1, q2⟩ := hp.blk b c hr
    rw [hb] at q2
    obtain ⟨_, _, _, _, ⟨hx, _⟩, _⟩ := q2
    obtain ⟨cs, el, fr, g7, g8⟩ := hp.row hr hrow
    have hle' := g8.le
    simp only [List.length_map, sbytes_length] at hle'
    obtain ⟨w', cur', g1, g2, g3, g4, g5, g6, g9⟩ := run_storeCells (P := P) (o := off) ms 0 cs w g7 (by rw [hv.length]; omega) hms g8.2
    have hR := g8.splice hv hone (by simpa [sbytes_length] using hle) g3 g4
    obtain ⟨s1, s2⟩ := sbytes_splice (off := off) hx h10 hle
    have hnew : ((sbytes len x).map byteV).take off ++ (m ++ ((sbytes len x).map byteV).drop (off + m.length)) = (sbytes len (Nat.add (Nat.mod x (Nat.pow 256 off)) (Nat.shiftLeft (Nat.add mx (Nat.shiftLeft (Nat.shiftRight x (Nat.mul 8 (Nat.add off m.length))) (Nat.mul 8 m.length))) (Nat.mul 8 off)))).map byteV := by
      rw [s1]
      simp only [List.map_append, List.map_take, List.map_drop]
      rw [← h9]
    rw [hnew] at hR
    obtain ⟨p1, p2⟩ := hp.write (H' := H') (w' := w') hr (by rw [hb]; intro e; cases e) h8.n h8.wlo h8.wb h8.get h8.oth trivial g9 g6 g2 g5
      ⟨cur', el, fr, rfl, ⟨s2, fun i y hy => by
        obtain ⟨_, cv, t1, t2⟩ := hR.1 i (byteV y) (by rw [List.getElem?_map, hy]; rfl)
        rw [t1, t2.int4.2]⟩, hR.2⟩ (fun cs2 e2 fr2 h => by rw [g7] at h; cases h; exact ⟨cur', el, fr, rfl, g3⟩)
    exact ⟨w', g1, p1, p2⟩

theorem s_store {t : TypeId} {x y : Operand} (hop : o.op = .store t x y) (h : evOp (compOp P nt o) id ph e H k = 1) : Good P nt o e H k := by
  simp only [compOp, hop] at h
  have mem : x ∈ o.op.operands ∧ y ∈ o.op.operands := by simp [hop, Op.operands]
  have hnd : ∀ c, o.op ≠ .defer c := by simp [hop]
  split at h
  · rename_i x' y' n hx hy hag hsz
    have h' : eStoreA n x' y' id ph e H k = 1 := h
    unfold eStoreA at h'
    rw [getA_eq] at h'
    obtain ⟨b, off, hb, h1⟩ := vPtr_ok h'
    rw [getA_eq] at h1
    obtain ⟨l, hl, h2⟩ := vAgg_ok h1
    obtain ⟨h3, h4⟩ := ifB_no h2
    have hlen : lenL l = n := beq_of h3
    rw [lenL_eq] at hlen
    obtain ⟨H', h5, h6⟩ := storeN_pure (P := P) h4
    refine ⟨_, _, OpS.of_skip hnd fun base w0 rho w a hp ho => ?_, h5⟩
    have vx := ho x mem.1 x' hx
    rw [hb] at vx
    simp only [VR] at vx
    obtain ⟨c, hc, hm⟩ := vx
    have vy := ho y mem.2 y' hy
    rw [hl] at vy
    simp only [VR] at vy
    obtain ⟨cs, hcs, hr⟩ := vy
    have hone : ∀ v ∈ l, v.one = true := storeN_one h4
    obtain ⟨w', g1, g2, g3⟩ := h6 hp hm hone hr
    refine ⟨w', ?_, rho, g2, g3⟩
    have hcl : cs.size = n := by have := hr.length; simp at this; omega
    simp [execOp, hop, hc, hcs, Instr.storeAt, Instr.sureAddr, storeVar, Value.cells, run_sizeOf' hsz, hcl, g1]
  · rename_i x' y' hx hy hag hsz
    have h' : eStore1 x' y' id ph e H k = 1 := h
    unfold eStore1 at h'
    rw [getA_eq] at h'
    obtain ⟨b, off, hb, h1⟩ := vPtr_ok h'
    rw [getA_eq] at h1
    obtain ⟨hone1, h4⟩ := isOne_ok h1
    obtain ⟨H', h5, h6⟩ := storeN_pure (P := P) h4
    refine ⟨_, _, OpS.of_skip hnd fun base w0 rho w a hp ho => ?_, h5⟩
    have vx := ho x mem.1 x' hx
    rw [hb] at vx
    simp only [VR] at vx
    obtain ⟨c, hc, hm⟩ := vx
    have vy := ho y mem.2 y' hy
    have hcl : (a.eval y).cells = #[a.eval y] := by
      have := vy.one hone1
      generalize a.eval y = q at this
      cases q <;> first | rfl | exact absurd rfl (this.1 _) | exact absurd rfl (this.2 _)
    obtain ⟨w', g1, g2, g3⟩ := h6 (ms := [a.eval y]) hp hm (fun v hv => by rw [List.mem_singleton.1 hv]; exact hone1) (by simp only [VRs]; exact ⟨_, [], rfl, vy, rfl⟩)
    refine ⟨w', ?_, rho, g2, g3⟩
    simp [execOp, hop, hc, Instr.storeAt, Instr.sureAddr, storeVar, hcl, run_sizeOf' hsz, g1]
  · exact (no_ne h).elim
end
end Go.Ev
