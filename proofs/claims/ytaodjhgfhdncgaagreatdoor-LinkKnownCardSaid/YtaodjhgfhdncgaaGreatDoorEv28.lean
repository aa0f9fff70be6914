/- A region that draws its order: joined. -/
import Derived.Test.YtaodjhgfhdncgaaGreatDoorEv27
import Derived.Test.YtaodjhgfhdncgaaGreatDoorEv36
set_option linter.unusedSectionVars false
set_option linter.unusedVariables false
set_option linter.unusedSimpArgs false
namespace Go.Ev
open Go.RowKit

theorem isolated_spec {l : List Bool} {bf : Array Nat} {i j : Nat} (h : isolated l bf i = true) (hj : l[j]? = some false) (hne : i ≠ j) : (bf.getD i 0).testBit j = true ∨ (bf.getD j 0).testBit i = true := by
  unfold isolated at h
  rw [List.all_eq_true] at h
  have := h (false, j) (List.mem_zipIdx_iff_getElem?.2 hj)
  simp only [Bool.false_or, Bool.or_eq_true, beq_iff_eq] at this
  rcases this with (h1 | h1) | h1
  · exact absurd h1.symm hne
  · exact Or.inl h1
  · exact Or.inr h1

/-- A piece of code that ends off its end. -/
def NS (P : Program) (nt : Nat) (c : Code) (e : Env) (H : Heap) (e' : Env) (H' : Heap) : Prop :=
  ∀ (rd : Option Nat) (base : Nat) (w0 : World) (rho : Nat → Option Nat) (w : World) (a : Act), PR P base w0 rho H w → TR (mu rho H w) nt e a.tmps →
    ∀ (Q : Exit → Act → World → Prop), (∀ a' w' rho', a'.defers = a.defers → PR P base w0 rho' H' w' → TR (mu rho' H' w') nt e' a'.tmps → Ext rho H w rho' H' w' → Q .normal a' w') → c.wpIn (WF rd) 0 P Q a w

/-- A region that draws its order, from what is known of the text's. -/
theorem any_ok {P : Program} {nt : Nat} {ops : Array Oper} {id : Nat} {iso pur al : Nat → Bool} {E : Nat → Env} {Hh : Nat → Heap} {Vv : Nat → V} {B : Nat → Option Nat} (hm : P.follows .mixedOrders = true) (hap : apartOK ops (Region.before ops) = true) (hE : Edges ops)
    (hst : ∀ j o, ops[j]? = some o → StepOK P nt ops (iso j) (pur j) (B j) o (E j) (Hh j) (Vv j) (E (j + 1)) (Hh (j + 1)))
    (hiso : ∀ i j, Hard iso pur i → i ≠ j → pur j = false → j < ops.size → ((Region.before ops).getD i 0).testBit j = true ∨ ((Region.before ops).getD j 0).testBit i = true ∨ (al j = true ∧ i < j))
    (hhal : ∀ i, Hard iso pur i → al i = false)
    (hal : ∀ i o, ops[i]? = some o → al i = true → (GW nt (E i) ops o false ∧ Vv i = .tup [] ∧ Hh (i + 1) = Hh i) ∨ AlOK P o (Hh i) (Vv i) (Hh (i + 1)))
    (hB : ∀ i b, i < ops.size → B i = some b → b < (Hh 0).n)
    (hkp : ∀ i k b, i < ops.size → k < ops.size → B i = some b → Hard iso pur k → ordd (Region.before ops) i k = false → b < (Hh k).n → (Hh (k + 1)).get b = (Hh k).get b) :
    NS P nt (.region id ops true) (E 0) (Hh 0) (E ops.size) (Hh ops.size) := fun rd b0 w0 rho w a hp ht Q hQ => by
  have hp1 : PR P b0 w0 rho (Hh 0) { w with drawn := w.drawn + 1 } := hp.drawn _
  have ht1 : TR (mu rho (Hh 0) { w with drawn := w.drawn + 1 }) nt (E 0) a.tmps := ht
  have hrun := text_run (iso := iso) (pur := pur) hst hp1 ht1
  have hhp : Heaps ops.size iso pur Hh := ⟨fun i hi => by obtain ⟨⟨_, _, _, p, _⟩, _⟩ := hrun i hi; exact p.wn, fun i hi => by obtain ⟨⟨_, _, _, p, _⟩, _⟩ := hrun i hi; exact p.out,
    fun i hi => by obtain ⟨_, g⟩ := hrun (i + 1) hi; exact ⟨(g i (by omega)).1, (g i (by omega)).2.1⟩, fun i hi => by obtain ⟨_, g⟩ := hrun (i + 1) hi; exact (g i (by omega)).2.2⟩
  have hke : ∀ i, i < ops.size → ∀ t, t < nt → ∃ m c, VR m (pget (slotOf t) (E i)) c ∧ ∀ b c', m.b b c' → b < (Hh i).n := fun i hi t hlt => by
    obtain ⟨⟨rho', w', a', p, tr⟩, _⟩ := hrun i (by omega)
    have hs := tr.size
    have hlt' : t < a'.tmps.size := by omega
    exact ⟨_, _, tr.get t _ (Array.getElem?_eq_getElem hlt'), fun b c' hm => hm.1⟩
  refine wpIn_region_any hm ?_
  obtain ⟨T, t1, t2, t3, t4⟩ := next_hard iso pur ops.size _ 0 rfl (Nat.zero_le _)
  obtain ⟨b1, b2⟩ := bat hhp T t2 0 t1 t4
  obtain ⟨p2, m2⟩ := hp1.grow b1 (hhp.wn T t2) (hhp.out T t2)
  have hnb : ∀ k, (Array.replicate ops.size false).getD k false = false := fun k => by
    rw [Array.getD_eq_getD_getElem?, Array.getElem?_replicate]
    split <;> rfl
  have x2 : Ext rho (Hh 0) w rho (Hh T) { w with drawn := w.drawn + 1 } := ⟨b1.n, by omega, Nat.le_refl _, fun b hb _ => ⟨b1.get b hb, rfl⟩, fun _ _ _ h => h, fun _ _ h _ => h, fun b hb ha => by rw [← b1.get b hb]; exact ha, fun b c hb hr => absurd (hp.lt b c hr) (by omega), fun _ _ _ => rfl, fun b hb => ⟨by
    have hbn : b < (Hh 0).n := by
      rcases Nat.lt_or_ge b (Hh 0).n with h | h
      · exact h
      · rw [b1.out b h] at hb; cases hb
    rw [b1.get b hbn]; exact hb, rfl, fun _ _ => rfl⟩, fun c cs e fr hc => ⟨cs, e, fr, hc, rfl⟩⟩
  obtain ⟨Hy, y1, y2, y3, y4⟩ := heap_of (fun b => if b < (Hh T).n then (Hh T).get b else .cells []) (Hh ops.size).n (Hh T).wlo
  have hTN := (mono_n hhp ops.size (Nat.le_refl _) T t2).1
  have hylo : ∀ b, b < (Hh T).n → Hy.get b = (Hh T).get b := fun b hb => by rw [y3 b (by omega), if_pos hb]
  have bY : Part (Hh T) Hy := ⟨by rw [y1]; exact hTN, hylo, hhp.out T t2⟩
  obtain ⟨p3, m3⟩ := p2.grow bY (by rw [y1, y2]; have := hhp.wn T t2; omega) (fun b hb => y4 b (by rw [← y1]; exact hb))
  have h0T := (mono_n hhp T t2 0 (Nat.zero_le _)).1
  have x3 : Ext rho (Hh 0) w rho Hy { w with drawn := w.drawn + 1 } := x2.re hp.lt (fun b c h => (hp.dom b c h).2.2.1) hp.out (by rw [y1]; omega) y2 (fun b hb => hylo b (by omega)) (fun _ _ => rfl) (fun b c _ h => Or.inl h) (fun _ _ => rfl) (Nat.le_refl _)
  refine walk (al := al) (rho0 := rho) (w00 := w) (ds := a.defers) hst hE hap hiso hhal hal hhp ht.le hp.lt (fun b c h => (hp.dom b c h).2.2.1) hB hkp hke (fun a' w' rho' g1 g2 g3 g4 => hQ a' w' rho' g1 g2 g3 g4) hp.out ops.size _ _ _ T rho Hy
    ⟨by simp, (fun j hj => by unfold Been at hj; rw [hnb] at hj; cases hj), t2, t3, (fun hb => by unfold Been at hb; rw [hnb] at hb; cases hb), fun i hi hh => absurd hh (t4 i (Nat.zero_le _) hi), y1, y2, hylo, fun b hb hb' => ?_, p3, x3, ?_, rfl, fun b c hr k hk _ => ?_, fun b c hr k hk hkj hb => ?_, fun b c hr hb => ?_⟩ (by simp [List.count_replicate])
  · rw [y3 b (by rw [← y1]; exact hb'), if_neg (by omega)]
    trivial
  · have : (fun k => (Array.replicate ops.size false).getD k false) = fun _ => false := funext hnb
    rw [this, envS_none fun _ => rfl]
    exact ht1.mono (M.le_trans m2 m3)
  · have := hp.lt b c hr
    have := (mono_n hhp k (by omega) 0 (Nat.zero_le _)).1
    omega
  · exact (hp1.kn hr).part (bat hhp k (by omega) 0 (Nat.zero_le _) fun j h5 h6 => t4 j h5 (by omega)).1 (hp.lt b c hr)
  · have := hp.lt b c hr
    omega

theorem isolatedA_spec {l al : List Bool} {bf : Array Nat} {i j : Nat} (h : isolatedA l al bf i = true) (hj : l[j]? = some false) (hne : i ≠ j) : (bf.getD i 0).testBit j = true ∨ (bf.getD j 0).testBit i = true ∨ (al.getD j false = true ∧ i < j) := by
  unfold isolatedA at h
  rw [Bool.and_eq_true] at h
  have h := h.2
  rw [List.all_eq_true] at h
  have := h (false, j) (List.mem_zipIdx_iff_getElem?.2 hj)
  simp only [Bool.false_or, Bool.or_eq_true, beq_iff_eq, Bool.and_eq_true] at this
  rcases this with ((h1 | h1) | h1) | h1
  · exact absurd h1.symm hne
  · exact Or.inl h1
  · exact Or.inr (Or.inl h1)
  · exact Or.inr (Or.inr ⟨h1.1, by have := h1.2; unfold Nat.blt at this; exact Nat.le_of_ble_eq_true this⟩)

theorem dreg_ok {P : Program} {nt : Nat} {ph : Phi} {ops : Array Oper} {base id : Nat} {r : List OpW} {e : Env} {H : Heap} {k : Env → Heap → R} (hm : P.follows .mixedOrders = true) (hph : PhiOK P ph) (hap : apartOK ops (Region.before ops) = true) (hed : edgesOK ops = true)
    (hc : compRegG P nt base ops (ops.toList.map fun o => pureOp (compOp P nt o)) (ops.toList.map fun o => isAl (compOp P nt o)) (Region.before ops) ops.toList 0 = some r) (h : evDreg ph r e H k = 1) : ∃ e' H', NS P nt (.region id ops true) e H e' H' ∧ k e' H' = 1 := by
  obtain ⟨E, Hh, Vv, h1, h2, h3, h5, h4⟩ := evDreg_ok hph ops.toList 0 r e H k hc h
  have hE := edges_of hed
  subst h1 h2
  have hpur : ∀ (j : Nat) (o : Oper), ops[j]? = some o → (ops[j]?.map fun o => pureOp (compOp P nt o)).getD true = pureOp (compOp P nt o) := fun j o hj => by simp [hj]
  have halg : ∀ (j : Nat), (ops.toList.map fun o => isAl (compOp P nt o)).getD j false = true → ∃ o, ops[j]? = some o ∧ isAl (compOp P nt o) = true := fun j hj => by
    rw [List.getD_eq_getElem?_getD, List.getElem?_map, Array.getElem?_toList] at hj
    cases ho : ops[j]? with
    | none => rw [ho] at hj; simp at hj
    | some o => rw [ho] at hj; exact ⟨o, rfl, by simpa using hj⟩
  have hni : ∀ j, (ops.toList.map fun o => isAl (compOp P nt o)).getD j false = true → isolatedA (ops.toList.map fun o => pureOp (compOp P nt o)) (ops.toList.map fun o => isAl (compOp P nt o)) (Region.before ops) j = false := fun j hj => by
    unfold isolatedA
    rw [hj]
    rfl
  refine ⟨_, _, any_ok (iso := fun j => isolatedA (ops.toList.map fun o => pureOp (compOp P nt o)) (ops.toList.map fun o => isAl (compOp P nt o)) (Region.before ops) j) (pur := fun j => (ops[j]?.map fun o => pureOp (compOp P nt o)).getD true) (al := fun j => (ops.toList.map fun o => isAl (compOp P nt o)).getD j false) (Vv := Vv) (B := fun _ => none) hm hap hE (fun j o hj => ?_) (fun i j hi hne hpj hj => ?_) (fun i hi => ?_) (fun i o ho hi => ?_) (fun i b _ hb => by cases hb) (fun i k b _ _ hb => by cases hb), by simpa using h4⟩
  · have := h3 j o (by simpa using hj)
    rw [Nat.zero_add] at this
    rw [hpur j o hj]
    exact this
  · refine isolatedA_spec hi.1 ?_ hne
    have hex : ops[j]? = some ops[j] := Array.getElem?_eq_getElem hj
    have : pureOp (compOp P nt ops[j]) = false := by
      rw [hpur j _ hex] at hpj
      exact hpj
    simp [hj, this]
  · cases hx : (ops.toList.map fun o => isAl (compOp P nt o)).getD i false with
    | false => rfl
    | true => exact absurd (hi.1.symm.trans (hni i hx)) (by simp)
  · obtain ⟨o', g1, g2⟩ := halg i hi
    rw [ho] at g1
    cases g1
    have := h5 i o (by simpa using ho) g2
    rw [Nat.zero_add] at this
    exact this (hni i hi)

theorem freg_ok {P : Program} {nt : Nat} {ph : Phi} {ops : Array Oper} {base id : Nat} {r : List OpW2} {e : Env} {H : Heap} {k : Env → Heap → R} (hm : P.follows .mixedOrders = true) (hph : PhiOK P ph) (hap : apartOK ops (Region.before ops) = true) (hed : edgesOK ops = true)
    (hc : compFregG P nt base ops (ops.toList.map (compOp P nt)) (Region.before ops) ops.toList 0 = some r) (h : evFreg ph H.n r e H [] [] k = 1) : ∃ e' H', NS P nt (.region id ops true) e H e' H' ∧ k e' H' = 1 := by
  have hE := edges_of hed
  obtain ⟨E, Hh, Vv, B, h1, h2, h3, h4, h5, h6, h7⟩ := evFreg_ok hph (fun x y => before_lt hE x y) ops.toList 0 r e H [] [] k hc (fun j o hj => by rw [Nat.zero_add, List.getElem?_map, hj]; rfl) (fun p hp => by cases hp) h
  subst h1 h2
  have hlen : ops.toList.length = ops.size := by simp
  simp only [Nat.zero_add] at h3 h5 h6 h7
  have hpur : ∀ (j : Nat) (o : Oper), ops[j]? = some o → (ops.toList.map (compOp P nt)).getD j .bad = compOp P nt o := fun j o hj => by
    rw [List.getD_eq_getElem?_getD, List.getElem?_map, Array.getElem?_toList, hj]
    rfl
  refine ⟨_, _, any_ok (al := fun _ => false) (iso := fun j => isoF (ops.toList.map (compOp P nt)) (Region.before ops) j) (pur := fun j => purAt (ops.toList.map (compOp P nt)) (Region.before ops) j) (Vv := Vv) (B := B) hm hap hE (fun j o hj => h3 j o (by simpa using hj)) (fun i j hi hne hpj hj => ?_) (fun _ _ => rfl) (fun _ _ _ h => by cases h) (fun i b hi hb => (h5 i b (by rw [hlen]; exact hi) hb).1) (fun i k b hi hk hb hh hord hlt => h7 i k b (by rw [hlen]; exact hi) (by rw [hlen]; exact hk) hb hh.1 hh.2 hord hlt), by simpa using h4⟩
  have hi1 := hi.1
  unfold isoF at hi1
  rw [Bool.and_eq_true] at hi1
  refine (fun h => h.imp (fun q => q) Or.inl) (isolated_spec hi1.1 ?_ hne)
  unfold purL
  rw [List.getElem?_map]
  have hex : ops[j]? = some ops[j] := Array.getElem?_eq_getElem hj
  have hz : (ops.toList.map (compOp P nt)).zipIdx[j]? = some (compOp P nt ops[j], j) := by
    rw [List.getElem?_zipIdx, List.getElem?_map, Array.getElem?_toList, hex]
    simp
  rw [hz]
  unfold purAt at hpj
  rw [hpur j _ hex] at hpj
  simpa using hpj
end Go.Ev
