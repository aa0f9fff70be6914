/- A region whose loads may pass its stores: every operation in its place. -/
import Derived.Test.YtaodjhgfhdncgaaGreatDoorEv35
set_option linter.unusedSectionVars false
set_option linter.unusedVariables false
set_option linter.unusedSimpArgs false
namespace Go.Ev
open Go.RowKit

theorem adBlk_ok {id : Nat} {x : V} {f : Option Nat → R} (h : adBlk id x f = 1) : f (obOf x) = 1 := by
  cases x <;> first | exact (no_ne h).elim | exact h
theorem apartN_ok {id bf b : Nat} : ∀ {l : List (Nat × Nat)} {k : R}, apartN id bf b l k = 1 → (∀ p ∈ l, bf.testBit p.1 = false → b ≠ p.2) ∧ k = 1
  | [], k, h => ⟨fun p hp => (by cases hp), h⟩
  | (i, c) :: l, k, h => by
    have h2 : (Nat.testBit bf i = true ∨ b ≠ c) ∧ apartN id bf b l k = 1 := by
      rcases ifB_or (show ifB (Nat.testBit bf i) (apartN id bf b l k) (ifB (Nat.beq b c) (no 0) (apartN id bf b l k)) = 1 from h) with ⟨h3, h4⟩ | ⟨h3, h4⟩
      · exact ⟨Or.inl h3, h4⟩
      · rcases ifB_or h4 with ⟨_, h6⟩ | ⟨h5, h6⟩
        · exact (no_ne h6).elim
        · refine ⟨Or.inr fun e => ?_, h6⟩
          subst e
          rw [beq_dec] at h5
          simp at h5
    obtain ⟨h3, h4⟩ := apartN_ok h2.2
    refine ⟨fun p hp => ?_, h4⟩
    rcases List.mem_cons.1 hp with rfl | hp
    · intro hb
      rcases h2.1 with h5 | h5
      · rw [hb] at h5; cases h5
      · exact h5
    · exact h3 p hp

theorem loadC_eq {id b off : Nat} {H H2 : Heap} (h : H2.get b = H.get b) (k : V → R) : loadC id H2 b off k = loadC id H b off k := by
  unfold loadC
  rw [hGet_eq, hGet_eq, h]
theorem loadN_eq {id b off n : Nat} {H H2 : Heap} (h : H2.get b = H.get b) (k : List V → R) : loadN id H2 b off n k = loadN id H b off n k := by
  unfold loadN
  rw [hGet_eq, hGet_eq, h]

/-- A load hangs on its block alone. -/
theorem ld_any {c : OpE} (hc : isLd c = true) {id : Nat} {ph : Phi} {e : Env} {H : Heap} {k : K} {b : Nat} (hb : obOf (pgetA (adOf c) e) = some b) (h : evOp c id ph e H k = 1) : ∃ v, k v H = 1 ∧ ∀ H2 : Heap, H2.get b = H.get b → ∀ k2 : K, evOp c id ph e H2 k2 = k2 v H2 := by
  cases c <;> simp only [isLd, Bool.false_eq_true] at hc
  · rename_i a
    have e1 : ∀ (H2 : Heap) (k2 : K), evOp (.load1 a) id ph e H2 k2 = vPtr id (pgetA a e) fun b o => loadC id H2 b o fun v => k2 v H2 := fun H2 k2 => by
      show eLoad1 a id ph e H2 k2 = _
      unfold eLoad1
      rw [getA_eq]
    rw [e1] at h
    obtain ⟨b', off, hx, h1⟩ := vPtr_ok h
    have hbb : b' = b := by
      have hb' : obOf (pgetA a e) = some b := hb
      rw [hx] at hb'
      simpa [obOf] using hb'
    subst hbb
    rcases sel_loadC (id := id) H b' off with ⟨v, hv⟩ | hv
    · refine ⟨v, by rw [← hv fun v => k v H]; exact h1, fun H2 h2 k2 => ?_⟩
      rw [e1, hx]
      show loadC id H2 b' off (fun v => k2 v H2) = _
      rw [loadC_eq h2, hv]
    · exact absurd h1 (hv _)
  · rename_i n a
    have e1 : ∀ (H2 : Heap) (k2 : K), evOp (.loadA n a) id ph e H2 k2 = vPtr id (pgetA a e) fun b o => loadN id H2 b o n fun l => k2 (.agg l) H2 := fun H2 k2 => by
      show eLoadA n a id ph e H2 k2 = _
      unfold eLoadA
      rw [getA_eq]
    rw [e1] at h
    obtain ⟨b', off, hx, h1⟩ := vPtr_ok h
    have hbb : b' = b := by
      have hb' : obOf (pgetA a e) = some b := hb
      rw [hx] at hb'
      simpa [obOf] using hb'
    subst hbb
    rcases sel_loadN (id := id) H b' off n with ⟨l, hv⟩ | hv
    · refine ⟨.agg l, by rw [← hv fun l => k (.agg l) H]; exact h1, fun H2 h2 k2 => ?_⟩
      rw [e1, hx]
      show loadN id H2 b' off n (fun l => k2 (.agg l) H2) = _
      rw [loadN_eq h2, hv]
    · exact absurd h1 (hv _)

theorem iso_spec {l : List Bool} {bf : Array Nat} {i j : Nat} (h : isolated l bf i = true) (hj : l[j]? = some false) (hne : i ≠ j) : ordd bf i j = true := by
  unfold isolated at h
  rw [List.all_eq_true] at h
  have := h (false, j) (List.mem_zipIdx_iff_getElem?.2 hj)
  simp only [Bool.false_or, Bool.or_eq_true, beq_iff_eq] at this
  unfold ordd
  rw [Bool.or_eq_true]
  rcases this with (h1 | h1) | h1
  · exact absurd h1.symm hne
  · exact Or.inl h1
  · exact Or.inr h1
theorem ordd_comm (bf : Array Nat) (i j : Nat) : ordd bf i j = ordd bf j i := by unfold ordd; rw [Bool.or_comm]
def purAt (cs : List OpE) (bf : Array Nat) (x : Nat) : Bool := pureOp (cs.getD x .bad) || floatL cs bf x

/-- What is known behind. -/
def FOut (P : Program) (nt : Nat) (ops : Array Oper) (cs : List OpE) (bf : Array Nat) (n0 : Nat) (l : List Oper) (i : Nat) (e : Env) (H : Heap) (fl st : List (Nat × Nat)) (k : Env → Heap → R) : Prop :=
    ∃ (E : Nat → Env) (Hh : Nat → Heap) (Vv : Nat → V) (B : Nat → Option Nat), E 0 = e ∧ Hh 0 = H ∧ (∀ j o, l[j]? = some o → StepOK P nt ops (isoF cs bf (i + j)) (purAt cs bf (i + j)) (B j) o (E j) (Hh j) (Vv j) (E (j + 1)) (Hh (j + 1))) ∧ k (E l.length) (Hh l.length) = 1 ∧
    (∀ j b, j < l.length → B j = some b → b < n0 ∧ (∃ c, cs[i + j]? = some c ∧ pureOp c = false) ∧ ∀ p ∈ st, (bf.getD (i + j) 0).testBit p.1 = false → b ≠ p.2) ∧
    (∀ j, j < l.length → isoF cs bf (i + j) = true → purAt cs bf (i + j) = false → ∀ p ∈ fl, (bf.getD (i + j) 0).testBit p.1 = false → p.2 < (Hh j).n → (Hh (j + 1)).get p.2 = (Hh j).get p.2) ∧
    (∀ j1 j2 b, j1 < l.length → j2 < l.length → B j1 = some b → isoF cs bf (i + j2) = true → purAt cs bf (i + j2) = false → ordd bf (i + j1) (i + j2) = false → b < (Hh j2).n → (Hh (j2 + 1)).get b = (Hh j2).get b)

theorem evFreg_ok {P : Program} {nt : Nat} {ph : Phi} {ops : Array Oper} {base n0 : Nat} {cs : List OpE} {bf : Array Nat} (hph : PhiOK P ph) (hbl : ∀ x y, (bf.getD x 0).testBit y = true → y < x) : ∀ (l : List Oper) (i : Nat) (r : List OpW2) (e : Env) (H : Heap) (fl st : List (Nat × Nat)) (k : Env → Heap → R), compFregG P nt base ops cs bf l i = some r → (∀ j o, l[j]? = some o → cs[i + j]? = some (compOp P nt o)) → (∀ p ∈ fl, p.1 < i ∧ ∃ c, cs[p.1]? = some c ∧ pureOp c = false) → evFreg ph n0 r e H fl st k = 1 → FOut P nt ops cs bf n0 l i e H fl st k
  | [], i, r, e, H, fl, st, k, hc, _, _, h => by
    simp only [compFregG, Option.some.injEq] at hc
    subst hc
    exact ⟨fun _ => e, fun _ => H, fun _ => .nilp, fun _ => none, rfl, rfl, fun j o hj => by simp at hj, h, fun j b hj => by simp at hj, fun j hj => by simp at hj, fun j1 j2 b hj => by simp at hj⟩
  | o :: l, i, r, e, H, fl, st, k, hc, hcs, hfl, h => by
    simp only [compFregG] at hc
    split at hc
    · rename_i d g r' hd hg hr
      cases hc
      have hci : cs[i]? = some (compOp P nt o) := by simpa using hcs 0 o rfl
      have hcd : cs.getD i .bad = compOp P nt o := by rw [List.getD_eq_getElem?_getD, hci]; rfl
      have hcs' : ∀ j o', l[j]? = some o' → cs[i + 1 + j]? = some (compOp P nt o') := fun j o' hj => by
        have := hcs (j + 1) o' (by simpa using hj)
        rwa [show i + (j + 1) = i + 1 + j by omega] at this
      have hpi : purAt cs bf i = (pureOp (compOp P nt o) || floatL cs bf i) := by unfold purAt; rw [hcd]
      have fin : ∀ (v : V) (H1 : Heap) (B0 : Option Nat) (fl' st' : List (Nat × Nat)), StepOK P nt ops (isoF cs bf i) (purAt cs bf i) B0 o e H v (psetD d v e) H1 →
          (∀ b, B0 = some b → b < n0 ∧ pureOp (compOp P nt o) = false ∧ (∀ p ∈ st, (bf.getD i 0).testBit p.1 = false → b ≠ p.2) ∧ (i, b) ∈ fl' ∧ purAt cs bf i = true) →
          (isoF cs bf i = true → purAt cs bf i = false → ∀ p ∈ fl, (bf.getD i 0).testBit p.1 = false → p.2 < H.n → H1.get p.2 = H.get p.2) →
          (isoF cs bf i = true → purAt cs bf i = false → ∀ x b, i < x → (∃ c, cs[x]? = some c ∧ pureOp c = false) → (∀ p ∈ st', (bf.getD x 0).testBit p.1 = false → b ≠ p.2) → ordd bf x i = false → b < H.n → H1.get b = H.get b) →
          (∀ p ∈ fl', p.1 < i + 1 ∧ ∃ c, cs[p.1]? = some c ∧ pureOp c = false) → (∀ p ∈ fl, p ∈ fl') → (∀ p ∈ st, p ∈ st') → evFreg ph n0 r' (psetD d v e) H1 fl' st' k = 1 → FOut P nt ops cs bf n0 (o :: l) i e H fl st k := fun v H1 B0 fl' st' hs hA hC hK hfl' s1 s2 hev => by
        obtain ⟨E, Hh, Vv, B, h1, h2, h3, h4, h5, h6, h7⟩ := evFreg_ok hph hbl l (i + 1) r' _ _ fl' st' k hr hcs' hfl' hev
        refine ⟨ncons e E, ncons H Hh, ncons v Vv, ncons B0 B, rfl, rfl, fun j o' hj => ?_, h4, fun j b hj hb => ?_, fun j hj hi hp p hpm hbit hlt => ?_, fun j1 j2 b hj1 hj2 hb hi hp hord hlt => ?_⟩
        · cases j with
          | zero =>
            simp only [List.getElem?_cons_zero, Option.some.injEq] at hj
            subst hj
            show StepOK P nt ops (isoF cs bf (i + 0)) _ B0 o e H v (E 0) (Hh 0)
            rw [h1, h2]
            exact hs
          | succ j =>
            have := h3 j o' (by simpa using hj)
            rw [show i + 1 + j = i + (j + 1) by omega] at this
            exact this
        · cases j with
          | zero =>
            obtain ⟨q1, q2, q3, _⟩ := hA b hb
            exact ⟨q1, ⟨_, by simpa using hci, q2⟩, q3⟩
          | succ j =>
            obtain ⟨q1, q2, q3⟩ := h5 j b (by simpa using hj) hb
            rw [show i + 1 + j = i + (j + 1) by omega] at q2 q3
            exact ⟨q1, q2, fun p hp => q3 p (s2 p hp)⟩
        · cases j with
          | zero =>
            show (Hh 0).get p.2 = H.get p.2
            rw [h2]
            exact hC hi hp p hpm hbit hlt
          | succ j =>
            have := h6 j (by simpa using hj)
            rw [show i + 1 + j = i + (j + 1) by omega] at this
            exact this hi hp p (s1 p hpm) hbit hlt
        · cases j2 with
          | zero =>
            cases j1 with
            | zero =>
              obtain ⟨_, _, _, _, q5⟩ := hA b hb
              exact absurd (hp.symm.trans q5) (by simp)
            | succ j1 =>
              obtain ⟨_, q2, q3⟩ := h5 j1 b (by simpa using hj1) hb
              show (Hh 0).get b = H.get b
              rw [h2]
              exact hK hi hp (i + 1 + j1) b (by omega) q2 q3 (by rw [show i + 1 + j1 = i + (j1 + 1) by omega]; exact hord) hlt
          | succ j2 =>
            cases j1 with
            | zero =>
              obtain ⟨_, _, _, q4, _⟩ := hA b hb
              have := h6 j2 (by simpa using hj2)
              rw [show i + 1 + j2 = i + (j2 + 1) by omega] at this
              refine this hi hp (i, b) q4 ?_ hlt
              unfold ordd at hord
              rw [Bool.or_eq_false_iff] at hord
              exact hord.2
            | succ j1 =>
              have := h7 j1 j2 b (by simpa using hj1) (by simpa using hj2) hb
              rw [show i + 1 + j1 = i + (j1 + 1) by omega, show i + 1 + j2 = i + (j2 + 1) by omega] at this
              exact this hi hp hord hlt
      have skip0 : StepOK P nt ops (isoF cs bf i) (purAt cs bf i) none o e H (.tup []) (psetD d (.tup []) e) H → evFreg ph n0 r' (psetD d (.tup []) e) H fl st k = 1 → FOut P nt ops cs bf n0 (o :: l) i e H fl st k := fun hs hev =>
        fin _ H none fl st hs (fun b hb => by cases hb) (fun _ _ _ _ _ _ => rfl) (fun _ _ _ _ _ _ _ _ _ => rfl) (fun p hp => ⟨Nat.lt_succ_of_lt (hfl p hp).1, (hfl p hp).2⟩) (fun _ h => h) (fun _ h => h) hev
      have hfls : ∀ p ∈ fl, p.1 < i + 1 ∧ ∃ c, cs[p.1]? = some c ∧ pureOp c = false := fun p hp => ⟨Nat.lt_succ_of_lt (hfl p hp).1, (hfl p hp).2⟩
      have h' : wantG g e (Nat.rec (motive := fun _ => R)
        (evOp (compOp P nt o) (base + i) ph e H fun v H' => setD d v e fun e' => evFreg ph n0 r' e' H' fl st k)
        (fun t1 _ => Nat.rec (motive := fun _ => R)
          (Heap.rec (motive := fun _ => R) (fun n wlo t => evOp (compOp P nt o) (base + i) ph e (.mk n n t) fun v H' => Heap.rec (motive := fun _ => R) (fun n' wlo' t' => ifB (Nat.ble n wlo') (setD d v e fun e' => evFreg ph n0 r' e' (.mk n' wlo t') fl st k) (no 0)) H') H)
          (fun t2 _ => getA (adOf (compOp P nt o)) e fun a => adBlk (base + i) a fun ob => Nat.rec (motive := fun _ => R)
            (Option.rec (motive := fun _ => R) (no 0) (fun b => ifB (Nat.blt b n0) (apartN (base + i) (bf.getD i 0) b st (evOp (compOp P nt o) (base + i) ph e H fun v H' => setD d v e fun e' => evFreg ph n0 r' e' H ((i, b) :: fl) st k)) (no 0)) ob)
            (fun _ _ => Option.rec (motive := fun _ => R) (evOp (compOp P nt o) (base + i) ph e H fun v H' => setD d v e fun e' => evFreg ph n0 r' e' H' fl st k)
              (fun b => apartN (base + i) (bf.getD i 0) b fl (evOp (compOp P nt o) (base + i) ph e H fun v H' => setD d v e fun e' => evFreg ph n0 r' e' H' fl ((i, b) :: st) k)) ob) t2) t1) (tagOf cs bf (compOp P nt o) i))
        (setD d (.tup []) e fun e' => evFreg ph n0 r' e' H fl st k) = 1 := h
      rcases wantG_or hg h' with ⟨h1, h2⟩ | ⟨h1, h2⟩
      rotate_left
      · rw [setD_eq] at h1
        exact skip0 ⟨d, hd, rfl, Or.inl ⟨h2, rfl, rfl⟩⟩ h1
      by_cases hf : floatL cs bf i = true
      · -- a load that may be passed
        have hld : isLd (compOp P nt o) = true := by
          unfold floatL at hf
          rw [Bool.and_eq_true, hcd] at hf
          exact hf.1
        have hnp : pureOp (compOp P nt o) = false := by cases hcc : compOp P nt o <;> rw [hcc] at hld <;> first | rfl | cases hld
        rw [show tagOf cs bf (compOp P nt o) i = 2 by unfold tagOf; rw [if_pos hf]] at h1
        have h3 : getA (adOf (compOp P nt o)) e (fun a => adBlk (base + i) a fun ob => Option.rec (motive := fun _ => R) (no 0) (fun b => ifB (Nat.blt b n0) (apartN (base + i) (bf.getD i 0) b st (evOp (compOp P nt o) (base + i) ph e H fun v H' => setD d v e fun e' => evFreg ph n0 r' e' H ((i, b) :: fl) st k)) (no 0)) ob) = 1 := h1
        rw [getA_eq] at h3
        have h4 := adBlk_ok h3
        cases hob : obOf (pgetA (adOf (compOp P nt o)) e) with
        | none => rw [hob] at h4; exact (no_ne h4).elim
        | some b =>
          rw [hob] at h4
          obtain ⟨h5, h6⟩ := ifB_no (show ifB (Nat.blt b n0) _ (no 0) = 1 from h4)
          obtain ⟨h7, h8⟩ := apartN_ok h6
          obtain ⟨v, h9, h10⟩ := ld_any hld hob h8
          have h9' : setD d v e (fun e' => evFreg ph n0 r' e' H ((i, b) :: fl) st k) = 1 := h9
          rw [setD_eq] at h9'
          have hpt : purAt cs bf i = true := by rw [hpi, hf]; simp
          refine fin v H (some b) ((i, b) :: fl) st ⟨d, hd, rfl, Or.inr (Or.inl ⟨h2, hpt, rfl, fun H2 hH2 => ?_⟩)⟩ (fun b' hb' => ?_) (fun _ hp => absurd (hp.symm.trans hpt) (by simp)) (fun _ hp => absurd (hp.symm.trans hpt) (by simp)) (fun p hp => ?_) (fun p hp => List.mem_cons_of_mem _ hp) (fun _ h => h) h9'
          · have hev := h10 H2 (hH2 b rfl) (fun v' H' => open Classical in if v' = v ∧ H' = H2 then 1 else 0)
            obtain ⟨v', H', q1, q2⟩ := evOp_sound hph (P := P) (nt := nt) (o := o) (id := base + i) (e := e) (H := H2) (by rw [hev]; simp)
            have q3 : v' = v ∧ H' = H2 := by
              by_cases hq : v' = v ∧ H' = H2
              · exact hq
              · simp [hq] at q2
            rw [← q3.1]
            have := q1
            rw [q3.2] at this
            exact this
          · cases hb'
            exact ⟨blt_of h5, hnp, h7, List.mem_cons_self .., hpt⟩
          · rcases List.mem_cons.1 hp with rfl | hp
            · exact ⟨Nat.lt_succ_self i, _, hci, hnp⟩
            · exact hfls p hp
      · have hf' : floatL cs bf i = false := by simpa using hf
        by_cases hpu : pureOp (compOp P nt o) = true
        · rw [show tagOf cs bf (compOp P nt o) i = 0 by unfold tagOf; rw [if_neg hf, if_pos hpu]] at h1
          obtain ⟨v, h3, h4⟩ := pure_any hph hpu (show evOp (compOp P nt o) (base + i) ph e H (fun v H' => setD d v e fun e' => evFreg ph n0 r' e' H' fl st k) = 1 from h1)
          have h4' : setD d v e (fun e' => evFreg ph n0 r' e' H fl st k) = 1 := h4
          rw [setD_eq] at h4'
          have hpt : purAt cs bf i = true := by rw [hpi, hpu]; rfl
          exact fin v H none fl st ⟨d, hd, rfl, Or.inr (Or.inl ⟨h2, hpt, rfl, fun H2 _ => h3 H2⟩)⟩ (fun b hb => by cases hb) (fun _ _ _ _ _ _ => rfl) (fun _ _ _ _ _ _ _ _ _ => rfl) hfls (fun _ h => h) (fun _ h => h) h4'
        · have hpf : purAt cs bf i = false := by rw [hpi, hf']; simpa using hpu
          have hpn : pureOp (compOp P nt o) = false := by simpa using hpu
          by_cases his : isoF cs bf i = true
          · by_cases hi0 : isolated (cs.map pureOp) bf i = true
            · rw [show tagOf cs bf (compOp P nt o) i = 0 by unfold tagOf; rw [if_neg hf, if_neg hpu, if_pos his, if_pos hi0]] at h1
              obtain ⟨v, H1, h3, h4⟩ := evOp_sound hph (show evOp (compOp P nt o) (base + i) ph e H (fun v H' => setD d v e fun e' => evFreg ph n0 r' e' H' fl st k) = 1 from h1)
              have h4' : setD d v e (fun e' => evFreg ph n0 r' e' H1 fl st k) = 1 := h4
              rw [setD_eq] at h4'
              have hno : ∀ x, x ≠ i → (∃ c, cs[x]? = some c ∧ pureOp c = false) → ordd bf i x = true := fun x hx ⟨c, hc1, hc2⟩ => iso_spec hi0 (by rw [List.getElem?_map, hc1]; simp [hc2]) (Ne.symm hx)
              refine fin v H1 none fl st ⟨d, hd, rfl, Or.inr (Or.inr (Or.inl ⟨h2, hpf, his, h3⟩))⟩ (fun b hb => by cases hb) (fun _ _ p hp hbit _ => ?_) (fun _ _ x b hx hxc _ hord _ => ?_) hfls (fun _ h => h) (fun _ h => h) h4'
              · have hlt := (hfl p hp).1
                have ho := hno p.1 (by omega) (hfl p hp).2
                unfold ordd at ho
                rw [hbit, Bool.false_or] at ho
                have := hbl _ _ ho
                omega
              · rw [ordd_comm, hno x (by omega) hxc] at hord
                cases hord
            · rw [show tagOf cs bf (compOp P nt o) i = 3 by unfold tagOf; rw [if_neg hf, if_neg hpu, if_pos his, if_neg hi0]] at h1
              have hst : isSt (compOp P nt o) = true := by
                have hi := his
                unfold isoF at hi
                rw [Bool.and_eq_true, Bool.or_eq_true, hcd] at hi
                exact hi.2.resolve_right hi0
              have h3 : getA (adOf (compOp P nt o)) e (fun a => adBlk (base + i) a fun ob => Option.rec (motive := fun _ => R) (evOp (compOp P nt o) (base + i) ph e H fun v H' => setD d v e fun e' => evFreg ph n0 r' e' H' fl st k)
                (fun b => apartN (base + i) (bf.getD i 0) b fl (evOp (compOp P nt o) (base + i) ph e H fun v H' => setD d v e fun e' => evFreg ph n0 r' e' H' fl ((i, b) :: st) k)) ob) = 1 := h1
              rw [getA_eq] at h3
              have h4 := adBlk_ok h3
              have hfr := st_frame (id := base + i) hst (ph := ph) (e := e) (H := H)
              have fire : ∀ (fl' st' : List (Nat × Nat)), evOp (compOp P nt o) (base + i) ph e H (fun v H' => setD d v e fun e' => evFreg ph n0 r' e' H' fl' st' k) = 1 → ∃ v H1, OpS P nt o e H v H1 ∧ Fr (obOf (pgetA (adOf (compOp P nt o)) e)) H H1 ∧ evFreg ph n0 r' (psetD d v e) H1 fl' st' k = 1 := fun fl' st' hev => by
                obtain ⟨⟨v, H1⟩, q1, q2, q3⟩ := hfr.get (k := fun p : V × Heap => setD d p.1 e fun e' => evFreg ph n0 r' e' p.2 fl' st' k) hev
                obtain ⟨v', H', q4, q5⟩ := evOp_sound hph (P := P) (nt := nt) (o := o) (id := base + i) (e := e) (H := H) (k := fun v' H' => open Classical in if (v', H') = (v, H1) then 1 else 0) (by
                  have := q3 (fun p => open Classical in if p = (v, H1) then 1 else 0)
                  rw [show (fun v' H' => open Classical in if (v', H') = (v, H1) then 1 else 0) = fun v' H' => (fun p : V × Heap => open Classical in if p = (v, H1) then (1 : R) else 0) (v', H') from rfl, this]
                  simp)
                have q6 : (v', H') = (v, H1) := by
                  by_cases hq : (v', H') = (v, H1)
                  · exact hq
                  · simp [hq] at q5
                cases q6
                have q2' : setD d v e (fun e' => evFreg ph n0 r' e' H1 fl' st' k) = 1 := q2
                rw [setD_eq] at q2'
                exact ⟨v, H1, q4, q1, q2'⟩
              cases hob : obOf (pgetA (adOf (compOp P nt o)) e) with
              | none =>
                rw [hob] at h4
                obtain ⟨v, H1, q1, q2, q3⟩ := fire fl st h4
                rw [hob] at q2
                exact fin v H1 none fl st ⟨d, hd, rfl, Or.inr (Or.inr (Or.inl ⟨h2, hpf, his, q1⟩))⟩ (fun b hb => by cases hb) (fun _ _ p hp hbit hlt => q2 _ hlt (by simp)) (fun _ _ x b hx hxc _ hord hlt => q2 _ hlt (by simp)) hfls (fun _ h => h) (fun _ h => h) q3
              | some b0 =>
                rw [hob] at h4
                obtain ⟨h7, h8⟩ := apartN_ok (show apartN (base + i) (bf.getD i 0) b0 fl _ = 1 from h4)
                obtain ⟨v, H1, q1, q2, q3⟩ := fire fl ((i, b0) :: st) h8
                rw [hob] at q2
                refine fin v H1 none fl ((i, b0) :: st) ⟨d, hd, rfl, Or.inr (Or.inr (Or.inl ⟨h2, hpf, his, q1⟩))⟩ (fun b hb => by cases hb) (fun _ _ p hp hbit hlt => q2 _ hlt ?_) (fun _ _ x b hx hxc hap hord hlt => q2 _ hlt ?_) hfls (fun _ h => h) (fun p hp => List.mem_cons_of_mem _ hp) q3
                · intro e0
                  cases e0
                  exact h7 p hp hbit rfl
                · intro e0
                  cases e0
                  unfold ordd at hord
                  rw [Bool.or_eq_false_iff] at hord
                  exact hap (i, b0) (List.mem_cons_self ..) hord.1 rfl
          · have hisf : isoF cs bf i = false := by simpa using his
            rw [show tagOf cs bf (compOp P nt o) i = 1 by unfold tagOf; rw [if_neg hf, if_neg hpu, if_neg his]] at h1
            cases H with
            | mk n wlo t =>
              obtain ⟨v, H1, h3, h4⟩ := evOp_sound hph (show evOp (compOp P nt o) (base + i) ph e (.mk n n t) (fun v H' => Heap.rec (motive := fun _ => R) (fun n' wlo' t' => ifB (Nat.ble n wlo') (setD d v e fun e' => evFreg ph n0 r' e' (.mk n' wlo t') fl st k) (no 0)) H') = 1 from h1)
              cases H1 with
              | mk n' wlo' t' =>
                have h4' : ifB (Nat.ble n wlo') (setD d v e fun e' => evFreg ph n0 r' e' (.mk n' wlo t') fl st k) (no 0) = 1 := h4
                obtain ⟨h5, h6⟩ := ifB_no h4'
                rw [setD_eq] at h6
                exact fin v (.mk n' wlo t') none fl st ⟨d, hd, rfl, Or.inr (Or.inr (Or.inr ⟨h2, hpf, hisf, .mk n n t, .mk n' wlo' t', rfl, fun _ => rfl, rfl, h3, ble_of h5, rfl, fun _ => rfl, rfl⟩))⟩ (fun b hb => by cases hb) (fun hi => absurd (hi.symm.trans hisf) (by simp)) (fun hi => absurd (hi.symm.trans hisf) (by simp)) hfls (fun _ h => h) (fun _ h => h) h6
    · cases hc
end Go.Ev
