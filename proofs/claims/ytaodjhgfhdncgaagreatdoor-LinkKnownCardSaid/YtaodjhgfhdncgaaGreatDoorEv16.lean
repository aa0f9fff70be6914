/- SLICING; lengths; the greater and the lesser. -/
import Derived.Test.YtaodjhgfhdncgaaGreatDoorEv15
set_option linter.unusedSectionVars false
set_option linter.unusedVariables false
set_option linter.unusedSimpArgs false
namespace Go.Ev
open Go.RowKit

section
variable {P : Program} {nt : Nat} {o : Oper} {id : Nat} {ph : Phi} {e : Env} {H : Heap} {k : K}

/-- What an optional bound stands for. -/
def BndOK (m : M) (e : Env) (x : Option Arg) (cv : Option Value) : Prop := match x, cv with
  | none, none => True
  | some a, some c => VR m (pgetA a e) c
  | _, _ => False
theorem oArg_ok {m : M} {ac : Act} {x : Option Operand} {x' : Option Arg} (h : oArg nt x = some x') (ho : ∀ y, x = some y → ∀ ar, compArg nt y = some ar → VR m (pgetA ar e) (ac.eval y)) : BndOK m e x' (x.map ac.eval) := by
  cases x with
  | none => simp only [oArg, Option.some.injEq] at h; subst h; trivial
  | some y =>
    simp only [oArg, Option.map_eq_some_iff] at h
    obtain ⟨a, h1, rfl⟩ := h
    exact ho y rfl a h1
theorem bnd_ok {x : Option Arg} {d : Nat} {f : Nat → R} (h : bnd id x e d f = 1) : ∃ n, f n = 1 ∧ (x = none → n = d) ∧ ∀ (m : M) (cv : Option Value), BndOK m e x cv → x.isSome = true → ∃ kd, cv = some (.int kd n) := by
  cases x with
  | none => exact ⟨d, h, fun _ => rfl, fun _ _ _ h => by cases h⟩
  | some a =>
    have h' : getA a e (fun v => vInt id v fun kd n => ifB (Nat.ble 3 kd) (ifB (Nat.blt n 4611686018427387904) (f n) (no _)) (no _)) = 1 := h
    rw [getA_eq] at h'
    obtain ⟨kd, n, hn, h1⟩ := vInt_ok h'
    obtain ⟨h2, h3⟩ := ifB_no h1
    obtain ⟨h4, h5⟩ := ifB_no h3
    refine ⟨n, h5, fun h => (by cases h), fun m cv hb _ => ?_⟩
    cases cv with
    | none => exact hb.elim
    | some c =>
      have hv : VR m (pgetA a e) c := hb
      rw [hn] at hv
      simp only [VR] at hv
      exact ⟨kKind kd, by rw [hv.1, toI_64 (ble_of h2) hv.2.2 (blt_of h4) hv.2.1]⟩

theorem run_sliceBound {kd : IntKind} {n y : Nat} {code : BoundsCode} {w : World} (h : n ≤ y) : (Instr.sliceBound (.int kd n) y code).run P w = .ok n w := by
  simp [Instr.sliceBound, asIntOf, h]

/-- The bounds of a slice expression. -/
theorem run_sliceBounds {isS : Bool} {len cap l h mm : Nat} {m : M} {lo hi mx : Option Arg} {clo chi cmx : Option Value} {w : World} (b1 : BndOK m e lo clo) (b2 : BndOK m e hi chi) (b3 : BndOK m e mx cmx)
    (hlo : lo = none → l = 0) (hhi : hi = none → h = len) (hmx : mx = none → mm = cap) (hlo' : ∀ (m : M) (cv : Option Value), BndOK m e lo cv → lo.isSome = true → ∃ kd, cv = some (.int kd l)) (hhi' : ∀ (m : M) (cv : Option Value), BndOK m e hi cv → hi.isSome = true → ∃ kd, cv = some (.int kd h))
    (hmx' : ∀ (m : M) (cv : Option Value), BndOK m e mx cv → mx.isSome = true → ∃ kd, cv = some (.int kd mm)) (hno : hi = none → mx = none) (h1 : l ≤ h) (h2 : h ≤ mm) (h3 : mm ≤ cap) :
    (Instr.sliceBounds isS len cap clo chi cmx).run P w = .ok (l, h, mm) w := by
  cases mx with
  | none =>
    cases cmx with
    | some _ => exact b3.elim
    | none =>
      have := hmx rfl
      subst this
      cases hi with
      | none =>
        cases chi with
        | some _ => exact b2.elim
        | none =>
          have := hhi rfl
          subst this
          cases lo with
          | none =>
            cases clo with
            | some _ => exact b1.elim
            | none => have := hlo rfl; subst this; simp [Instr.sliceBounds]
          | some a =>
            obtain ⟨kd, rfl⟩ := hlo' _ _ b1 rfl
            simp [Instr.sliceBounds, run_sliceBound h1]
      | some a2 =>
        obtain ⟨kd2, rfl⟩ := hhi' _ _ b2 rfl
        cases lo with
        | none =>
          cases clo with
          | some _ => exact b1.elim
          | none => have := hlo rfl; subst this; simp [Instr.sliceBounds, run_sliceBound h2]
        | some a =>
          obtain ⟨kd, rfl⟩ := hlo' _ _ b1 rfl
          simp [Instr.sliceBounds, run_sliceBound h1, run_sliceBound h2]
  | some a3 =>
    obtain ⟨kd3, rfl⟩ := hmx' _ _ b3 rfl
    cases hi with
    | none => cases hno rfl
    | some a2 =>
      obtain ⟨kd2, rfl⟩ := hhi' _ _ b2 rfl
      cases lo with
      | none =>
        cases clo with
        | some _ => exact b1.elim
        | none => have := hlo rfl; subst this; simp [Instr.sliceBounds, run_sliceBound h2, run_sliceBound h3]
      | some a =>
        obtain ⟨kd, rfl⟩ := hlo' _ _ b1 rfl
        simp [Instr.sliceBounds, run_sliceBound h1, run_sliceBound h2, run_sliceBound h3]

theorem s_slice {t : TypeId} {x : Operand} {lo hi mx : Option Operand} (hop : o.op = .slice t x lo hi mx) (h : evOp (compOp P nt o) id ph e H k = 1) : Good P nt o e H k := by
  simp only [compOp, hop] at h
  have mem : x ∈ o.op.operands := by simp [hop, Op.operands]
  have mlo : ∀ y, lo = some y → y ∈ o.op.operands := fun y hy => by subst hy; simp [hop, Op.operands]
  have mhi : ∀ y, hi = some y → y ∈ o.op.operands := fun y hy => by subst hy; simp [hop, Op.operands]
  have mmx : ∀ y, mx = some y → y ∈ o.op.operands := fun y hy => by subst hy; simp [hop, Op.operands]
  have hnd : ∀ c, o.op ≠ .defer c := by simp [hop]
  split at h
  rotate_left
  · exact (no_ne h).elim
  rename_i x' lo' hi' mx' hx hlo hhi hmx
  split at h
  · -- a text
    rename_i hu
    split at h
    · have h' : eSlS x' lo' hi' id ph e H k = 1 := h
      unfold eSlS at h'
      rw [getA_eq] at h'
      obtain ⟨len, n, hb, h1⟩ := vStr_ok h'
      obtain ⟨hh, h2, h3, h4⟩ := bnd_ok h1
      obtain ⟨ll, h5, h6, h7⟩ := bnd_ok h2
      obtain ⟨h8, h9⟩ := ifB_no h5
      obtain ⟨h10, h11⟩ := ifB_no h9
      rw [forceN_eq, forceN_eq] at h11
      have hl := ble_of h8
      have hh' := ble_of h10
      refine ⟨_, _, OpS.of_pure hnd fun m w ac ho => ?_, h11⟩
      have v := ho x mem x' hx
      rw [hb] at v
      simp only [VR] at v
      have hmn : mx = none := by
        cases mx with
        | none => rfl
        | some y => simp [oArg] at hmx
      subst hmn
      have hsb := run_sliceBounds (P := P) (isS := false) (len := len) (cap := len) (l := ll) (h := hh) (mm := len) (w := w) (mx := none) (cmx := none) (oArg_ok (m := m) (ac := ac) hlo fun y hy => ho y (mlo y hy)) (oArg_ok (m := m) (ac := ac) hhi fun y hy => ho y (mhi y hy)) trivial h6 h3 (fun _ => rfl) h7 h4 (fun _ _ _ h => by cases h) (fun _ => rfl) hl hh' (Nat.le_refl _)
      have e1 : Nat.mod (Nat.shiftRight n (Nat.mul 8 ll)) (Nat.pow 256 (Nat.sub hh ll)) = n / 256 ^ ll % 256 ^ (hh - ll) := by
        show (n >>> (8 * ll)) % 256 ^ (hh - ll) = _
        rw [Nat.shiftRight_eq_div_pow, Nat.pow_mul]
      rw [e1]
      refine ⟨.string ⟨(sbytes (hh - ll) (n / 256 ^ ll % 256 ^ (hh - ll))).toArray⟩, ?_, by simp only [VR]; exact ⟨rfl, Nat.mod_lt _ (Nat.pow_pos (by decide))⟩⟩
      have hsz : (⟨(sbytes len n).toArray⟩ : ByteArray).size = len := by simp [ByteArray.size, sbytes_length]
      have hex : (⟨(sbytes len n).toArray⟩ : ByteArray).extract ll hh = ⟨(sbytes (hh - ll) (n / 256 ^ ll % 256 ^ (hh - ll))).toArray⟩ := by
        apply Go.WideShapes.bytes_inj
        rw [ByteArray.data_extract]
        simp only [Array.toList_extract, List.extract_eq_take_drop]
        rw [sbytes_drop _ _ _ (by omega), sbytes_take _ _ _ (by omega)]
        exact sbytes_mod _ _ _ (by simp)
      simp [execOp, hop, v.1, Instr.sliceAt, Instr.slice, run_underlying hu, hsz, hsb, hex]
    · exact (no_ne h).elim
  · -- a slice
    rename_i el hu
    split at h
    · rename_i s hs
      have hfin : eSlV s x' lo' hi' mx' id ph e H k = 1 ∧ (hi' = none → mx' = none) := by
        split at h
        · exact (no_ne h).elim
        · rename_i hno
          exact ⟨h, fun h1 => by
            cases mx' with
            | none => rfl
            | some a => exact (hno a h1 rfl).elim⟩
      obtain ⟨h', hno⟩ := hfin
      unfold eSlV at h'
      rw [getA_eq] at h'
      rcases vSliceN_ok h' with ⟨b, off, len, cp, sz, hb, h1⟩ | ⟨hb, h1⟩
      · obtain ⟨ll, h2, h3, h4⟩ := bnd_ok h1
        obtain ⟨hh, h5, h6, h7⟩ := bnd_ok h2
        obtain ⟨h8, h9⟩ := ifB_no h5
        have hle := ble_of h8
        rw [forceN_eq] at h9
        -- what is left: the new bound and the new slice
        have key : ∀ (cp' : Nat) (off' : Nat) (sz' : Nat), k (.slice b off' (hh - ll) cp' sz') H = 1 → (cp' = 0 → cp = 0 ∧ sz' = sz ∧ sz = s ∧ mx' = none) →
            (∀ (c cap o' : Nat) (m : M) (cmx : Option Value), BndOK m e mx' cmx → len ≤ cap → (∀ q, cp = q + 1 → cap = q) → (o' = off ∨ cap = 0) → ∃ mm, hh ≤ mm ∧ mm ≤ cap ∧ (mx' = none → mm = cap) ∧ (∀ (m : M) (cv : Option Value), BndOK m e mx' cv → mx'.isSome = true → ∃ kd, cv = some (.int kd mm)) ∧
              (∀ q, cp' = q + 1 → mm - ll = q) ∧ ((if mm = ll then o' else o' + ll * s) = off' ∨ mm - ll = 0)) → Good P nt o e H k := by
          intro cp' off' sz' hk hsz0 hmm
          refine ⟨_, _, OpS.of_pure hnd fun m w ac ho => ?_, hk⟩
          have v := ho x mem x' hx
          rw [hb] at v
          simp only [VR] at v
          obtain ⟨c, cap, o', hc, hm, hlc, hcp, ho'⟩ := v
          have bm := oArg_ok (m := m) (ac := ac) (e := e) hmx fun y hy => ho y (mmx y hy)
          obtain ⟨mm, g1, g2, g3, g4, g5, g6⟩ := hmm c cap o' m _ bm hlc hcp.1 ho'
          have hsb := run_sliceBounds (P := P) (isS := true) (len := len) (cap := cap) (l := ll) (h := hh) (mm := mm) (w := w) (oArg_ok (m := m) (ac := ac) hlo fun y hy => ho y (mlo y hy)) (oArg_ok (m := m) (ac := ac) hhi fun y hy => ho y (mhi y hy)) bm h3 h6 g3 h4 h7 g4 hno hle g1 g2
          refine ⟨.slice (some ⟨c, if mm = ll then o' else o' + ll * s, none⟩) (hh - ll) (mm - ll), ?_, ?_⟩
          · have ha : (if mm = ll then some (⟨c, o', none⟩ : Addr) else Option.map (fun x => x.add (ll * s)) (some (⟨c, o', none⟩ : Addr))) = some ⟨c, if mm = ll then o' else o' + ll * s, none⟩ := by
              split <;> simp [Addr.add_lit]
            simp only [execOp, hop, hc, Instr.sliceAt, Sem.run_bind, run_underlying hu, Result.andThen_ok, Instr.slice, hsb, run_sizeOf' hs, Sem.run_pure, ha]
          · simp only [VR]
            refine ⟨c, mm - ll, _, rfl, hm, by omega, ⟨g5, fun h0 => ?_⟩, g6⟩
            obtain ⟨q1, q2, q3, q4⟩ := hsz0 h0
            by_cases hml : mm = ll
            · left; omega
            · have hcapm := g3 q4
              rcases hcp.2 q1 with q5 | q5
              · left; omega
              · right
                rw [if_neg hml, q2, q3]
                have : o' + ll * s + (mm - ll) * s = o' + cap * s := by
                  rw [Nat.add_assoc, ← Nat.add_mul]
                  congr 2
                  omega
                rw [this, ← q3]
                exact ⟨q5.1, by have := q5.2; omega⟩
        cases mx' with
        | none =>
          cases cp with
          | zero =>
            have h10 : ifB (Nat.ble hh len) (ifB (Nat.beq sz s) (forceN (Nat.add off (Nat.mul ll s)) fun o' => k (.slice b o' (Nat.sub hh ll) 0 sz) H) (no _)) (no _) = 1 := h9
            obtain ⟨h11, h12⟩ := ifB_no h10
            obtain ⟨hszs, h12⟩ := ifB_no h12
            have hszs := beq_of hszs
            rw [forceN_eq] at h12
            have hhl := ble_of h11
            refine key 0 (off + ll * s) sz h12 (fun _ => ⟨rfl, rfl, hszs, rfl⟩) fun c cap o' m cmx bm hlc hcp ho' => ⟨cap, by omega, Nat.le_refl _, fun _ => rfl, fun _ _ _ h => (by cases h), fun q hq => absurd hq (by omega), ?_⟩
            by_cases hcl : cap = ll
            · right; omega
            · left
              rw [if_neg hcl]
              rcases ho' with rfl | h13
              · rfl
              · omega
          | succ q =>
            have h10 : ifB (Nat.ble hh q) (ifB (Nat.beq q ll) (k (.slice b off (Nat.sub hh ll) 1 0) H) (forceN (Nat.add off (Nat.mul ll s)) fun o' => forceN (Nat.succ (Nat.sub q ll)) fun c' => k (.slice b o' (Nat.sub hh ll) c' 0) H)) (no _) = 1 := h9
            obtain ⟨h11, h12⟩ := ifB_no h10
            have hhq := ble_of h11
            rcases ifB_or h12 with ⟨h13, h14⟩ | ⟨h13, h14⟩
            · have := beq_of h13
              subst this
              refine key 1 off 0 h14 (fun h => absurd h (by omega)) fun c cap o' m cmx bm hlc hcp ho' => ?_
              have := hcp q rfl
              subst this
              refine ⟨cap, hhq, Nat.le_refl _, fun _ => rfl, fun _ _ _ h => (by cases h), fun r hr => by omega, Or.inr (by omega)⟩
            · rw [forceN_eq, forceN_eq] at h14
              rw [beq_dec] at h13
              have hne : q ≠ ll := by simpa using h13
              refine key _ _ 0 h14 (fun h => absurd h (by omega)) fun c cap o' m cmx bm hlc hcp ho' => ?_
              have := hcp q rfl
              subst this
              refine ⟨cap, hhq, Nat.le_refl _, fun _ => rfl, fun _ _ _ h => (by cases h), fun r hr => by injection hr, Or.inl ?_⟩
              rw [if_neg hne]
              rcases ho' with rfl | h15
              · rfl
              · omega
        | some am =>
          have h10 : bnd id (some am) e 0 (fun m => ifB (Nat.ble hh m) (ifB (Nat.ble m (Nat.rec (motive := fun _ => Nat) len (fun q _ => q) cp)) (ifB (Nat.beq m ll) (k (.slice b off (Nat.sub hh ll) 1 0) H) (forceN (Nat.add off (Nat.mul ll s)) fun o' => forceN (Nat.succ (Nat.sub m ll)) fun c' => k (.slice b o' (Nat.sub hh ll) c' 0) H)) (no _)) (no _)) = 1 := h9
          obtain ⟨mm, h11, _, h13⟩ := bnd_ok h10
          obtain ⟨h14, h15⟩ := ifB_no h11
          obtain ⟨h16, h17⟩ := ifB_no h15
          have hhm := ble_of h14
          have hmc := ble_of h16
          have hcap : ∀ cap : Nat, len ≤ cap → (∀ q, cp = q + 1 → cap = q) → mm ≤ cap := fun cap q1 q2 => by
            clear h9 h10 h17 h11 h15
            cases cp with
            | zero => exact Nat.le_trans (show mm ≤ len from hmc) q1
            | succ q => rw [q2 q rfl]; exact hmc
          rcases ifB_or h17 with ⟨h18, h19⟩ | ⟨h18, h19⟩
          · have := beq_of h18
            subst this
            exact key 1 off 0 h19 (fun h => absurd h (by omega)) fun c cap o' m cmx bm hlc hcp ho' => ⟨mm, hhm, hcap cap hlc hcp, fun h => (by cases h), h13, fun r hr => by omega, Or.inr (by omega)⟩
          · rw [forceN_eq, forceN_eq] at h19
            rw [beq_dec] at h18
            have hne : mm ≠ ll := by simpa using h18
            refine key _ _ 0 h19 (fun h => absurd h (by omega)) fun c cap o' m cmx bm hlc hcp ho' => ⟨mm, hhm, hcap cap hlc hcp, fun h => (by cases h), h13, fun r hr => (by injection hr), Or.inl ?_⟩
            rw [if_neg hne]
            rcases ho' with rfl | h20
            · rfl
            · have := hcap cap hlc hcp
              omega
      · -- nil
        obtain ⟨ll, h2, h3, h4⟩ := bnd_ok h1
        obtain ⟨hh, h5, h6, h7⟩ := bnd_ok h2
        obtain ⟨mm, h8, h9, h10⟩ := bnd_ok h5
        obtain ⟨h11, h12⟩ := ifB_no h8
        obtain ⟨h13, h14⟩ := ifB_no h12
        obtain ⟨h15, h16⟩ := ifB_no h14
        have e1 := beq_of h11
        have e2 := beq_of h13
        have e3 := beq_of h15
        subst e1 e2 e3
        refine ⟨_, _, OpS.of_pure hnd fun m w ac ho => ?_, h16⟩
        have v := ho x mem x' hx
        rw [hb] at v
        simp only [VR] at v
        have hsb := run_sliceBounds (P := P) (isS := true) (len := 0) (cap := 0) (l := 0) (h := 0) (mm := 0) (w := w) (oArg_ok (m := m) (ac := ac) hlo fun y hy => ho y (mlo y hy)) (oArg_ok (m := m) (ac := ac) hhi fun y hy => ho y (mhi y hy)) (oArg_ok (m := m) (ac := ac) hmx fun y hy => ho y (mmx y hy)) h3 h6 h9 h4 h7 h10 hno (Nat.le_refl _) (Nat.le_refl _) (Nat.le_refl _)
        refine ⟨.slice none 0 0, ?_, by simp only [VR]⟩
        simp only [execOp, hop, v, Instr.sliceAt, Sem.run_bind, run_underlying hu, Result.andThen_ok, Instr.slice, hsb, run_sizeOf' hs, Sem.run_pure]
        rfl
    · exact (no_ne h).elim
  · -- an array
    rename_i n el hu
    split at h
    · rename_i s hs
      have hfin : eSlA n s x' lo' hi' mx' id ph e H k = 1 ∧ (hi' = none → mx' = none) := by
        split at h
        · exact (no_ne h).elim
        · rename_i hno
          exact ⟨h, fun h1 => by
            cases mx' with
            | none => rfl
            | some a => exact (hno a h1 rfl).elim⟩
      obtain ⟨h', hno⟩ := hfin
      unfold eSlA at h'
      rw [getA_eq] at h'
      obtain ⟨b, off, hb, h1⟩ := vPtr_ok h'
      obtain ⟨mm, h2, h3, h4⟩ := bnd_ok h1
      obtain ⟨hh, h5, h6, h7⟩ := bnd_ok h2
      obtain ⟨ll, h8, h9, h10⟩ := bnd_ok h5
      obtain ⟨h11, h12⟩ := ifB_no h8
      obtain ⟨h13, h14⟩ := ifB_no h12
      obtain ⟨h15, h16⟩ := ifB_no h14
      rw [forceN_eq] at h16
      have hle := ble_of h11
      have hhm := ble_of h13
      have hmn := ble_of h15
      have key : ∀ (cp' off' : Nat), k (.slice b off' (hh - ll) cp' 0) H = 1 → cp' ≠ 0 → (∀ q, cp' = q + 1 → mm - ll = q) → (if mm = ll then off else off + ll * s) = off' → Good P nt o e H k := by
        intro cp' off' hk hne0 g5 g6
        refine ⟨_, _, OpS.of_pure hnd fun m w ac ho => ?_, hk⟩
        have v := ho x mem x' hx
        rw [hb] at v
        simp only [VR] at v
        obtain ⟨c, hc, hm⟩ := v
        have hsb := run_sliceBounds (P := P) (isS := false) (len := n) (cap := n) (l := ll) (h := hh) (mm := mm) (w := w) (oArg_ok (m := m) (ac := ac) hlo fun y hy => ho y (mlo y hy)) (oArg_ok (m := m) (ac := ac) hhi fun y hy => ho y (mhi y hy)) (oArg_ok (m := m) (ac := ac) hmx fun y hy => ho y (mmx y hy)) h9 h6 h3 h10 h7 h4 hno hle hhm hmn
        refine ⟨.slice (some ⟨c, if mm = ll then off else off + ll * s, none⟩) (hh - ll) (mm - ll), ?_, ?_⟩
        · have ha : (if mm = ll then (⟨c, off, none⟩ : Addr) else (⟨c, off, none⟩ : Addr).add (ll * s)) = ⟨c, if mm = ll then off else off + ll * s, none⟩ := by
            split <;> simp [Addr.add_lit]
          simp only [execOp, hop, hc, Instr.sliceAt, Sem.run_bind, run_underlying hu, Result.andThen_ok, Instr.sureAddr, hsb, run_sizeOf' hs, Sem.run_pure, ha]
        · simp only [VR]
          exact ⟨c, mm - ll, _, rfl, hm, by omega, ⟨g5, fun h => absurd h hne0⟩, Or.inl g6⟩
      rcases ifB_or h16 with ⟨h17, h18⟩ | ⟨h17, h18⟩
      · have := beq_of h17
        subst this
        exact key 1 off h18 (by omega) (fun q hq => by omega) (by rw [if_pos rfl])
      · rw [forceN_eq, forceN_eq] at h18
        rw [beq_dec] at h17
        have hne : mm ≠ ll := by simpa using h17
        exact key _ _ h18 (by omega) (fun q hq => by injection hq) (by rw [if_neg hne]; rfl)
    · exact (no_ne h).elim
  · exact (no_ne h).elim
end
end Go.Ev
