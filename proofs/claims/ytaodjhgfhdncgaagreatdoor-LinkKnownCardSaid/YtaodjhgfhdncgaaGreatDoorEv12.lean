/- OPERATIONS THAT READ, WRITE OR MAKE MEMORY. -/
import Derived.Test.YtaodjhgfhdncgaaGreatDoorEv33
import Derived.Laws.BytesString
import Derived.Laws.MakeOwn
set_option linter.unusedSectionVars false
set_option linter.unusedVariables false
set_option linter.unusedSimpArgs false
namespace Go.Ev
open Go.RowKit

section
variable {P : Program} {nt : Nat} {o : Oper} {id : Nat} {ph : Phi} {e : Env} {H : Heap} {k : K}

theorem BR_of_row {m : M} {bl : Blk} {row : List V} {c : Array Value} {t : TypeId} {fr : Nat × Nat} (h : rowOf bl = some row) (hcan : ∀ len n, bl = .bytes len n → n < 256 ^ len) (hR : RowR m row c fr) (hns : ∀ l, bl = .cells l → ¬ (fr.1 ≤ c.size ∧ c.size < fr.2) := by first | (intro _ _; simp; done) | (intro _ e; cases e)) : BR P m bl (.cells c t fr) := by
  cases bl with
  | cells l => simp only [rowOf, Option.some.injEq] at h; subst h; exact ⟨c, t, fr, rfl, hR, hns _ rfl⟩
  | bytes len n =>
    simp only [rowOf, Option.some.injEq] at h
    subst h
    exact ⟨c, t, fr, rfl, ⟨hcan len n rfl, fun i y hy => by
      obtain ⟨_, cv, t1, t2⟩ := hR.1 i (byteV y) (by rw [List.getElem?_map, hy]; rfl)
      rw [t1, t2.int4.2]⟩, hR.2⟩
  | _ => simp [rowOf] at h

theorem PR.fresh {base : Nat} {w0 w w' : World} {rho : Nat → Option Nat} {H' : Heap} (h : PR P base w0 rho H w) {bl : Blk} (hN : NewTo H bl H') {row : List V} (hrow : rowOf bl = some row) (hcan : ∀ len n, bl = .bytes len n → n < 256 ^ len)
    {c : Array Value} {t : TypeId} {fr : Nat × Nat} (hR : RowR (mu rho H w) row c fr) (hs : Same w w') (hh : w'.heap = w.heap.push (.cells c t fr)) (hns : ∀ l, bl = .cells l → ¬ (fr.1 ≤ c.size ∧ c.size < fr.2) := by first | (intro _ _; simp; done) | (intro _ e; cases e)) :
    ∃ rho', PR P base w0 rho' H' w' ∧ Ext rho H w rho' H' w' ∧ (mu rho' H' w').b H.n w.heap.size := by
  obtain ⟨p1, p2⟩ := h.alloc (w' := w') (o := .cells c t fr) hN.n hN.wlo hN.get hN.oth (rowOf_alive hrow).1 hs (by simp [hh]) (by simp [hh]) (fun j hj => by rw [hh, Array.getElem?_push, if_neg (by omega)]) (BR_of_row hrow hcan hR hns)
  exact ⟨_, p1, p2, by rw [hN.n]; omega, fun _ => by simp⟩

theorem RowR.exact {m : M} {row : List V} {cs : Array Value} (h : VRs m row cs.toList) (h1 : ∀ v ∈ row, v.one = true) : RowR m row cs (0, 0) := by
  refine ⟨fun i v hi => ?_, fun i _ => by simp⟩
  obtain ⟨c, h2, h3⟩ := h.get hi
  exact ⟨h1 v (List.mem_of_getElem? hi), c, by simpa using h2, h3⟩

theorem z8_ok : ∀ {z : List V}, z8 z = true → z = (sbytes z.length 0).map byteV
  | [], _ => rfl
  | .int 4 0 :: l, h => by
    have h' : z8 l = true := h
    have := z8_ok h'
    simp only [List.length_cons, sbytes, List.map_cons, byteV]
    rw [← this]
    rfl

theorem zeroT_ok {t : TypeId} {z : List V} (h : zeroT P t = some z) : ∃ i zv, P.info? t = some i ∧ i.zero = some zv ∧ (∀ m, VRs m z zv.cells.toList) ∧ ∀ v ∈ z, v.one = true := by
  unfold zeroT at h
  split at h
  · rename_i i hi
    split at h
    · rename_i zv hz
      exact ⟨i, zv, hi, hz, fun m => (consts_ok h).1, (consts_ok (mu := ⟨fun _ _ => True, fun _ _ => True⟩) h).2⟩
    · cases h
  · cases h

theorem s_alloc {t : TypeId} (hop : o.op = .alloc t) (h : evOp (compOp P nt o) id ph e H k = 1) : Good P nt o e H k := by
  simp only [compOp, hop] at h
  have hnd : ∀ c, o.op ≠ .defer c := by simp [hop]
  have key : ∀ (z : List V) (bl : Blk), zeroT P t = some z → rowOf bl = some z → (∀ len n, bl = .bytes len n → n < 256 ^ len) → (hNew H bl fun n H => k (.ptr n 0) H) = 1 → Good P nt o e H k := by
    intro z bl hz hrow hcan h'
    obtain ⟨H', h1, h2⟩ := hNew_ok h'
    obtain ⟨i, zv, hi, hzv, hvr, hone⟩ := zeroT_ok hz
    refine ⟨_, _, OpS.of_run hnd fun base w0 rho w a hp ho => ?_, h1⟩
    obtain ⟨rho', p1, p2, p3⟩ := hp.fresh (w' := w.alloc (.cells zv.cells t)) (t := t) h2 hrow hcan (RowR.exact (hvr _) hone) ⟨rfl, rfl, rfl⟩ rfl
    refine ⟨.pointer (some ⟨w.heap.size, 0, none⟩), w.alloc (.cells zv.cells t), ?_, rho', by simp only [VR]; exact ⟨_, rfl, p3⟩, p1, p2⟩
    simp [execOp, hop, Instr.alloc, zeroValue, typeInfo, hi, hzv, newVar, newRow]
  split at h
  · rename_i z n el hz hu
    split at h
    · rename_i hc
      simp only [Bool.and_eq_true, beq_iff_eq] at hc
      have hzz := z8_ok hc.1
      rw [hc.2] at hzz
      exact key z (.bytes n 0) hz (by rw [hzz]; rfl) (fun len m e => by cases e; exact Nat.pow_pos (by decide)) h
    · exact key z (.cells z) hz rfl (fun len m e => by cases e) h
  · exact key _ (.cells _) (by assumption) rfl (fun len m e => by cases e) h
  · exact (no_ne h).elim

theorem vCells_vr {m : M} {x : V} {c : Value} {f : List V → R} (hv : VR m x c) (h : vCells id x f = 1) : ∃ l, f l = 1 ∧ VRs m l c.cells.toList ∧ ((∃ q, x = .agg q ∧ l = q) ∨ (l = [x] ∧ x.one = true)) := by
  rcases vCells_ok h with ⟨l, rfl, h1⟩ | ⟨h1, h2⟩
  · simp only [VR] at hv
    obtain ⟨cs, rfl, hr⟩ := hv
    exact ⟨l, h1, hr, Or.inl ⟨l, rfl, rfl⟩⟩
  · refine ⟨[x], h2, ?_, Or.inr ⟨rfl, h1⟩⟩
    have := hv.one h1
    have hc : c.cells = #[c] := by
      cases c <;> first | rfl | exact absurd rfl (this.1 _) | exact absurd rfl (this.2 _)
    rw [hc]
    simp only [VRs]
    exact ⟨c, [], rfl, hv, rfl⟩

/-- The cells of a value, without the world. -/
theorem vCells_pure {x : V} {f : List V → R} (h : vCells id x f = 1) : ∃ l, f l = 1 ∧ ∀ (m : M) (c : Value), VR m x c → VRs m l c.cells.toList := by
  rcases vCells_ok h with ⟨l, rfl, h1⟩ | ⟨h1, h2⟩
  · exact ⟨l, h1, fun m c hv => by simp only [VR] at hv; obtain ⟨cs, rfl, hr⟩ := hv; exact hr⟩
  · refine ⟨[x], h2, fun m c hv => ?_⟩
    have := hv.one h1
    have hc : c.cells = #[c] := by
      cases c <;> first | rfl | exact absurd rfl (this.1 _) | exact absurd rfl (this.2 _)
    rw [hc]
    simp only [VRs]
    exact ⟨c, [], rfl, hv, rfl⟩

theorem s_box {t : TypeId} {x : Operand} (hop : o.op = .box t x) (h : evOp (compOp P nt o) id ph e H k = 1) : Good P nt o e H k := by
  simp only [compOp, hop] at h
  have mem : x ∈ o.op.operands := by simp [hop, Op.operands]
  have hnd : ∀ c, o.op ≠ .defer c := by simp [hop]
  split at h
  · rename_i x' hx
    have h' : eBox x' id ph e H k = 1 := h
    unfold eBox at h'
    rw [getA_eq] at h'
    obtain ⟨l, h1, h2⟩ := vCells_pure h'
    obtain ⟨h3, h4⟩ := allOne_ok h1
    obtain ⟨H', h5, h6⟩ := hNew_ok h4
    refine ⟨_, _, OpS.of_run hnd fun base w0 rho w a hp ho => ?_, h5⟩
    obtain ⟨rho', p1, p2, p3⟩ := hp.fresh (w' := w.alloc (.cells (a.eval x).cells t)) (t := t) h6 rfl (fun len m e => by cases e) (RowR.exact (h2 _ _ (ho x mem x' hx)) h3) ⟨rfl, rfl, rfl⟩ rfl
    exact ⟨.pointer (some ⟨w.heap.size, 0, none⟩), w.alloc (.cells (a.eval x).cells t), by simp [execOp, hop, Instr.box, newVar, newRow], rho', by simp only [VR]; exact ⟨_, rfl, p3⟩, p1, p2⟩
  · exact (no_ne h).elim

theorem run_isAgg {t : TypeId} {b : Bool} (h : aggT P t = some b) (w : World) : (isAgg t).run P w = .ok b w := by
  unfold aggT at h
  split at h
  · rename_i hu; cases h; simp [isAgg, run_underlying hu]
  · rename_i hu; cases h; simp [isAgg, run_underlying hu]
  · rename_i d h1 h2 hu
    cases h
    simp only [isAgg, Sem.run_bind, run_underlying hu, Result.andThen_ok]
    cases d <;> first | rfl | exact absurd rfl (h1 _) | exact absurd rfl (h2 _ _)
  · cases h

theorem s_load {t : TypeId} {x : Operand} (hop : o.op = .load t x) (h : evOp (compOp P nt o) id ph e H k = 1) : Good P nt o e H k := by
  simp only [compOp, hop] at h
  have mem : x ∈ o.op.operands := by simp [hop, Op.operands]
  have hnd : ∀ c, o.op ≠ .defer c := by simp [hop]
  split at h
  · rename_i x' n hx hag hsz
    have h' : eLoadA n x' id ph e H k = 1 := h
    unfold eLoadA at h'
    rw [getA_eq] at h'
    obtain ⟨b, off, hb, h1⟩ := vPtr_ok h'
    obtain ⟨row, h2, h3, h4⟩ := loadN_ok h1
    refine ⟨_, _, OpS.of_run hnd fun base w0 rho w a hp ho => ?_, h4⟩
    have vx := ho x mem x' hx
    rw [hb] at vx
    simp only [VR] at vx
    obtain ⟨c, hc, hm⟩ := vx
    obtain ⟨cs, g1, g2, g3⟩ := hp.cells (hp.rho_of hm h2) h2 h3
    exact ⟨.agg cs.toArray, w, by simp [execOp, hop, hc, Instr.loadAt, Instr.sureAddr, loadVar, run_isAgg hag, run_sizeOf' hsz, g1], rho, by simp only [VR]; exact ⟨_, rfl, g2⟩, hp, Ext.refl hp.lt⟩
  · rename_i _ x' hx hag
    have h' : eLoad1 x' id ph e H k = 1 := h
    unfold eLoad1 at h'
    rw [getA_eq] at h'
    obtain ⟨b, off, hb, h1⟩ := vPtr_ok h'
    obtain ⟨row, v, h2, h3, h4⟩ := loadC_ok h1
    refine ⟨_, _, OpS.of_run hnd fun base w0 rho w a hp ho => ?_, h4⟩
    have vx := ho x mem x' hx
    rw [hb] at vx
    simp only [VR] at vx
    obtain ⟨c, hc, hm⟩ := vx
    obtain ⟨cv, g1, g2, _⟩ := hp.cell (hp.rho_of hm h2) h2 h3
    exact ⟨cv, w, by simp [execOp, hop, hc, Instr.loadAt, Instr.sureAddr, loadVar, run_isAgg hag, g1], rho, g2, hp, Ext.refl hp.lt⟩
  · exact (no_ne h).elim
end
end Go.Ev
