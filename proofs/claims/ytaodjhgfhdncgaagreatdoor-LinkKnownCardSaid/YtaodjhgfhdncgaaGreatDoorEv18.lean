/- CALLS, AND THE BUILTINS. -/
import Derived.Test.YtaodjhgfhdncgaaGreatDoorEv17
set_option linter.unusedSectionVars false
set_option linter.unusedVariables false
set_option linter.unusedSimpArgs false
namespace Go.Ev
open Go.RowKit

section
variable {P : Program} {nt : Nat} {o : Oper} {id : Nat} {ph : Phi} {e : Env} {H : Heap} {k : K}

theorem FSp.op {x : V} {args : List V} {v : V} {H' : Heap} {f : Operand} {as : Array Operand} {ts : Array TypeId} (h : FSp P x args H v H') (hop : o.op = .call { callee := .value f, args := as, argTypes := ts })
    (hx : ∀ (m : M) (ac : Act), OR m nt e ac o → VR m x (ac.eval f)) (ha : ∀ (m : M) (ac : Act), OR m nt e ac o → VRs m args (as.map ac.eval).toList) : OpS P nt o e H v H' := by
  intro rd base w0 rho w a hp ho
  refine ⟨about_any P o a w rd, ?_⟩
  rw [semAt_eq (by simp [hop])]
  have hex : execOp a.eval o = (do let d ← Deferred.ofValue (a.eval f) (as.map a.eval); invoke d.target d.args) := by
    simp only [execOp, hop]
    rfl
  rw [hex]
  exact h rd base w0 rho w (a.eval f) (as.map a.eval) hp (hx _ _ ho) (ha _ _ ho) o a

theorem s_callFunc (hph : PhiOK P ph) {f : FuncId} {as : Array Operand} {ts : Array TypeId} (hop : o.op = .call { callee := .value (.func f), args := as, argTypes := ts }) (h : evOp (compOp P nt o) id ph e H k = 1) : Good P nt o e H k := by
  simp only [compOp, hop] at h
  split at h
  · rename_i l _ hl hf
    have h' : eCall (2 * f) l id ph e H k = 1 := h
    unfold eCall at h'
    rw [getAs_eq] at h'
    obtain ⟨v, H', h1, h2⟩ := hph _ _ _ _ h'
    refine ⟨v, H', h1.1.op hop (fun m ac ho => by simp only [Act.eval, VR]; exact ⟨#[], by simp, by simp only [VRs]⟩) (fun m ac ho => ?_), h2⟩
    have := compArgs_ok (e := e) (m := m) (ac := ac) hl fun x hx => ho x (by simp [hop, Op.operands, Call.operands]; right; simpa using hx)
    simpa using this
  · exact (no_ne h).elim
theorem s_callVal (hph : PhiOK P ph) {t : Tmp} {as : Array Operand} {ts : Array TypeId} (hop : o.op = .call { callee := .value (.tmp t), args := as, argTypes := ts }) (h : evOp (compOp P nt o) id ph e H k = 1) : Good P nt o e H k := by
  simp only [compOp, hop] at h
  split at h
  · rename_i x l hx hl
    have h' : eCallV x l id ph e H k = 1 := h
    unfold eCallV at h'
    rw [getA_eq, getAs_eq] at h'
    obtain ⟨v, H', h1, h2⟩ := hph _ _ _ _ h'
    refine ⟨v, H', h1.1.op hop (fun m ac ho => ho _ (by simp [hop, Op.operands, Call.operands]) x hx) (fun m ac ho => ?_), h2⟩
    have := compArgs_ok (e := e) (m := m) (ac := ac) hl fun x hx => ho x (by simp [hop, Op.operands, Call.operands]; right; simpa using hx)
    simpa using this
  · exact (no_ne h).elim

/-! ### builtins -/
theorem builtin_ex {b : Builtin} {as : Array Operand} {ts : Array TypeId} (hop : o.op = .call { callee := .builtin b, args := as, argTypes := ts }) (r : Operand → Value) :
    execOp r o = builtin b ts o.type (as.map fun | .const _ => true | _ => false) (as.map r) := by
  simp only [execOp, hop]
  rfl
theorem args1 {as : Array Operand} {x : Arg} (h : compArgs nt as.toList = some [x]) : ∃ y, as = #[y] ∧ compArg nt y = some x := by
  obtain ⟨l⟩ := as
  cases l with
  | nil => simp [compArgs] at h
  | cons y l =>
    cases l with
    | nil =>
      simp only [compArgs] at h
      split at h
      · rename_i a r h1 h2
        simp at h h2
        subst h2
        simp at h
        subst h
        exact ⟨y, rfl, h1⟩
      · cases h
    | cons z l =>
      simp only [compArgs] at h
      split at h
      · rename_i a r h1 h2
        split at h2
        · rename_i a' r' h3 h4
          cases h2
          simp at h
        · cases h2
      · cases h
theorem args2 {as : Array Operand} {x y : Arg} (h : compArgs nt as.toList = some [x, y]) : ∃ p q, as = #[p, q] ∧ compArg nt p = some x ∧ compArg nt q = some y := by
  obtain ⟨l⟩ := as
  cases l with
  | nil => simp [compArgs] at h
  | cons p l =>
    simp only [compArgs] at h
    split at h
    · rename_i a r h1 h2
      simp at h
      obtain ⟨rfl, rfl⟩ := h
      obtain ⟨q, hq, h3⟩ := args1 (as := ⟨l⟩) h2
      cases hq
      exact ⟨p, q, rfl, h1, h3⟩
    · cases h
theorem args3 {as : Array Operand} {x y z : Arg} (h : compArgs nt as.toList = some [x, y, z]) : ∃ p q r, as = #[p, q, r] ∧ compArg nt p = some x ∧ compArg nt q = some y ∧ compArg nt r = some z := by
  obtain ⟨l⟩ := as
  cases l with
  | nil => simp [compArgs] at h
  | cons p l =>
    simp only [compArgs] at h
    split at h
    · rename_i a r h1 h2
      simp at h
      obtain ⟨rfl, rfl⟩ := h
      obtain ⟨q, r, hq, h3, h4⟩ := args2 (as := ⟨l⟩) h2
      cases hq
      exact ⟨p, q, r, rfl, h1, h3, h4⟩
    · cases h


theorem toI_64' {n : Nat} (h : n < 4611686018427387904) : toI .i64 n = n := toI_small _ _ (by simp [half, IntKind.signed, IntKind.bits]; omega)
theorem vr_goInt {m : M} {n : Nat} (h : n < 4611686018427387904) : VR m (.int 3 n) (goInt n) := by
  simp only [VR]
  exact ⟨by show Value.int .i64 (n : Int) = Value.int .i64 (toI .i64 n); rw [toI_64' h], by show n < 2 ^ 64; omega, by omega⟩

theorem lenM_eq : ∀ es : List (V × V), lenM es = es.length
  | [] => rfl
  | _ :: es => congrArg Nat.succ (lenM_eq es)
theorem lenSL_ok {x : V} {f : Nat → R} (h : lenSL id x f = 1) : ∃ n, f n = 1 ∧ ∀ (m : M) (c : Value), VR m x c → ∀ w : World, (Builtin.lenOf c).run P w = .ok n w := by
  cases x <;> first | exact (no_ne h).elim | skip
  · exact ⟨_, h, fun m c v w => by simp only [VR] at v; rw [v.1]; simp [Builtin.lenOf, ByteArray.size, sbytes_length]⟩
  · exact ⟨_, h, fun m c v w => by simp only [VR] at v; obtain ⟨c1, cap, o', rfl, _⟩ := v; rfl⟩
  · exact ⟨_, h, fun m c v w => by simp only [VR] at v; rw [v]; rfl⟩
theorem lenR_ok {n : Nat} (h : lenR id n H k = 1) : n < 4611686018427387904 ∧ k (.int 3 n) H = 1 := by
  obtain ⟨h1, h2⟩ := ifB_no h
  exact ⟨blt_of h1, h2⟩

theorem s_len {as : Array Operand} {ts : Array TypeId} (hop : o.op = .call { callee := .builtin .len, args := as, argTypes := ts }) (h : evOp (compOp P nt o) id ph e H k = 1) : Good P nt o e H k := by
  simp only [compOp, hop, compBuiltin] at h
  have hnd : ∀ c, o.op ≠ .defer c := by simp [hop]
  split at h
  · rename_i x t tr hx hts
    obtain ⟨y, rfl, hy⟩ := args1 hx
    have hts' : ts[0]? = some t := by rw [← Array.getElem?_toList, hts]; rfl
    have fin : ∀ n : Nat, n < 4611686018427387904 → k (.int 3 n) H = 1 → (∀ (base : Nat) (w0 : World) (rho : Nat → Option Nat) (w : World) (a : Act), PR P base w0 rho H w → VR (mu rho H w) (pgetA x e) (a.eval y) → (Builtin.len_ ts o.type #[a.eval y]).run P w = .ok (goInt n) w) → Good P nt o e H k := by
      intro n hn hk hr
      refine ⟨_, _, OpS.of_run hnd fun base w0 rho w a hp ho => ?_, hk⟩
      have v := ho y (by simp [hop, Op.operands, Call.operands]) x hy
      refine ⟨goInt n, w, ?_, rho, vr_goInt hn, hp, Ext.refl hp.lt⟩
      rw [builtin_ex hop a.eval]
      simp [builtin, hr base w0 rho w a hp v]
    split at h
    · rename_i hu
      have h' : eLenS x id ph e H k = 1 := h
      unfold eLenS at h'
      rw [getA_eq] at h'
      obtain ⟨l, q, hq, h1⟩ := vStr_ok h'
      obtain ⟨h2, h3⟩ := lenR_ok h1
      refine fin l h2 h3 fun base w0 rho w a hp v => ?_
      rw [hq] at v
      simp only [VR] at v
      have hs : (⟨(sbytes l q).toArray⟩ : ByteArray).size = l := by simp [ByteArray.size, sbytes_length]
      simp [Builtin.len_, hts', run_underlying hu, v.1, hs]
    · rename_i el hu
      have h' : eLenL x id ph e H k = 1 := h
      unfold eLenL at h'
      rw [getA_eq] at h'
      rcases vSliceN_ok h' with ⟨b, off, l, cp, sz, hq, h1⟩ | ⟨hq, h1⟩
      · obtain ⟨h2, h3⟩ := lenR_ok h1
        refine fin l h2 h3 fun base w0 rho w a hp v => ?_
        rw [hq] at v
        simp only [VR] at v
        obtain ⟨c1, cap, o', hc, _⟩ := v
        simp [Builtin.len_, hts', run_underlying hu, hc]
      · obtain ⟨h2, h3⟩ := lenR_ok h1
        refine fin 0 h2 h3 fun base w0 rho w a hp v => ?_
        rw [hq] at v
        simp only [VR] at v
        simp [Builtin.len_, hts', run_underlying hu, v]
    · rename_i kt el hu
      have h' : eLenM x id ph e H k = 1 := h
      unfold eLenM at h'
      rw [getA_eq] at h'
      rcases vMapN_ok h' with ⟨b, hq, h1⟩ | ⟨hq, h1⟩
      · rw [hGet_eq] at h1
        obtain ⟨es, hes, h2⟩ := bMap_ok h1
        rw [forceN_eq, lenM_eq] at h2
        obtain ⟨h3, h4⟩ := lenR_ok h2
        refine fin _ h3 h4 fun base w0 rho w a hp v => ?_
        rw [hq] at v
        simp only [VR] at v
        obtain ⟨c, hc, hmu⟩ := v
        obtain ⟨hr, ents, clock, es', g1, gp, go, g2, _⟩ := hp.map_at hes hmu
        have hl : ents.size = es.length := by have := g2.1.length; rw [← gp.length_eq]; simpa using this
        simp [Builtin.len_, hts', run_underlying hu, hc, run_getObj g1, hl]
      · obtain ⟨h2, h3⟩ := lenR_ok h1
        refine fin 0 h2 h3 fun base w0 rho w a hp v => ?_
        rw [hq] at v
        simp only [VR] at v
        simp [Builtin.len_, hts', run_underlying hu, v]
    · exact (no_ne h).elim
  · exact (no_ne h).elim

theorem sliceT_ok {t el : TypeId} (h : sliceT P t = some el) : P.underlying t = some (.slice el) := by
  unfold sliceT at h
  split at h
  · rename_i hu; cases h; exact hu
  · cases h

theorem s_cap {as : Array Operand} {ts : Array TypeId} (hop : o.op = .call { callee := .builtin .cap, args := as, argTypes := ts }) (h : evOp (compOp P nt o) id ph e H k = 1) : Good P nt o e H k := by
  simp only [compOp, hop, compBuiltin] at h
  have hnd : ∀ c, o.op ≠ .defer c := by simp [hop]
  split at h
  · rename_i x t tr hx hts
    obtain ⟨y, rfl, hy⟩ := args1 hx
    have hts' : ts[0]? = some t := by rw [← Array.getElem?_toList, hts]; rfl
    split at h
    · rename_i el hel
      have hu := sliceT_ok hel
      have h' : eCap x id ph e H k = 1 := h
      unfold eCap at h'
      rw [getA_eq] at h'
      have fin : ∀ n : Nat, n < 4611686018427387904 → k (.int 3 n) H = 1 → (∀ (m : M) (w : World) (a : Act), VR m (pgetA x e) (a.eval y) → (Builtin.cap_ ts o.type #[a.eval y]).run P w = .ok (goInt n) w) → Good P nt o e H k := by
        intro n hn hk hr
        refine ⟨_, _, OpS.of_pure hnd fun m w a ho => ?_, hk⟩
        have v := ho y (by simp [hop, Op.operands, Call.operands]) x hy
        refine ⟨goInt n, ?_, vr_goInt hn⟩
        rw [builtin_ex hop a.eval]
        simp [builtin, hr m w a v]
      rcases vSliceN_ok h' with ⟨b, off, l, cp, sz, hq, h1⟩ | ⟨hq, h1⟩
      · cases cp with
        | zero => exact (no_ne h1).elim
        | succ q =>
          obtain ⟨h2, h3⟩ := ifB_no (show ifB (Nat.blt q 4611686018427387904) (k (.int 3 q) H) (no _) = 1 from h1)
          refine fin q (blt_of h2) h3 fun m w a v => ?_
          rw [hq] at v
          simp only [VR] at v
          obtain ⟨c1, cap, o', hc, _, _, hcp, _⟩ := v
          have := hcp.1 q rfl
          subst this
          simp [Builtin.cap_, hts', run_underlying hu, hc]
      · refine fin 0 (by omega) h1 fun m w a v => ?_
        rw [hq] at v
        simp only [VR] at v
        simp [Builtin.cap_, hts', run_underlying hu, v]
    · exact (no_ne h).elim
  · exact (no_ne h).elim

theorem eMm_ok {kd oo mo : Nat} {mx : Bool} {x y : Arg} (h : eMm kd oo mo mx x y id ph e H k = 1) : ∃ a b, pgetA x e = .int kd a ∧ pgetA y e = .int kd b ∧ k (.int kd (if mx then (if (a + oo) % mo ≤ (b + oo) % mo then b else a) else (if (a + oo) % mo ≤ (b + oo) % mo then a else b))) H = 1 := by
  unfold eMm at h
  rw [getA_eq] at h
  obtain ⟨k1, a, ha, h1⟩ := vInt_ok h
  rw [getA_eq] at h1
  obtain ⟨k2, b, hb, h2⟩ := vInt_ok h1
  obtain ⟨h3, h4⟩ := ifB_no h2
  obtain ⟨h5, h6⟩ := ifB_no h4
  have e1 := beq_of h3
  have e2 := beq_of h5
  subst e1 e2
  refine ⟨a, b, ha, hb, ?_⟩
  rcases ifB_or h6 with ⟨h7, h8⟩ | ⟨h7, h8⟩
  · have hle : (a + oo) % mo ≤ (b + oo) % mo := ble_of h7
    rcases ifB_or h8 with ⟨h9, h10⟩ | ⟨h9, h10⟩ <;> subst h9 <;> simpa [hle] using h10
  · have hle : ¬ (a + oo) % mo ≤ (b + oo) % mo := fun hle => by
      have : Nat.ble ((a.add oo).mod mo) ((b.add oo).mod mo) = true := Nat.ble_eq_true_of_le hle
      rw [this] at h7; cases h7
    rcases ifB_or h8 with ⟨h9, h10⟩ | ⟨h9, h10⟩ <;> subst h9 <;> simpa [hle] using h10

/-- The greater, or the smaller one of two numbers. -/
def mmN (mx : Bool) (oo mo a b : Nat) : Nat := if mx then (if (a + oo) % mo ≤ (b + oo) % mo then b else a) else (if (a + oo) % mo ≤ (b + oo) % mo then a else b)
theorem mmN_or (mx : Bool) (oo mo a b : Nat) : mmN mx oo mo a b = a ∨ mmN mx oo mo a b = b := by
  unfold mmN
  split <;> split <;> simp
theorem pick2_eq {oo mo : Nat} {mx : Bool} {a b : Nat} {f : Nat → R} : pick2 oo mo mx a b f = f (mmN mx oo mo a b) := by
  unfold pick2 mmN
  have hb : (Nat.ble ((a.add oo).mod mo) ((b.add oo).mod mo) = true) ↔ (a + oo) % mo ≤ (b + oo) % mo := ⟨fun h => Nat.le_of_ble_eq_true h, fun h => Nat.ble_eq_true_of_le h⟩
  by_cases hle : (a + oo) % mo ≤ (b + oo) % mo
  · rw [hb.2 hle]
    cases mx
    · simp only [Bool.false_eq_true, if_false, if_pos hle]; rfl
    · simp only [if_true, if_pos hle]; rfl
  · have : Nat.ble ((a.add oo).mod mo) ((b.add oo).mod mo) = false := by
      cases hc : Nat.ble ((a.add oo).mod mo) ((b.add oo).mod mo) with
      | false => rfl
      | true => exact absurd (hb.1 hc) hle
    rw [this]
    cases mx
    · simp only [Bool.false_eq_true, if_false, if_neg hle]; rfl
    · simp only [if_true, if_neg hle]; rfl
theorem run_mm2 {kx : IntKind} {a b : Nat} (mx : Bool) (ha : a < kMod kx) (hb : b < kMod kx) : (if mx then Builtin.max2 else Builtin.min2) (.int kx (toI kx a)) (.int kx (toI kx b)) = pure (.int kx (toI kx (mmN mx (offK kx) (2 ^ kx.bits) a b))) := by
  have oa := toI_off kx a ha
  have ob := toI_off kx b hb
  have hcmp : toI kx b > toI kx a ↔ ¬ (b + offK kx) % 2 ^ kx.bits ≤ (a + offK kx) % 2 ^ kx.bits := by rw [oa, ob]; omega
  have hcmp2 : toI kx b < toI kx a ↔ ¬ (a + offK kx) % 2 ^ kx.bits ≤ (b + offK kx) % 2 ^ kx.bits := by rw [oa, ob]; omega
  have heq : (a + offK kx) % 2 ^ kx.bits = (b + offK kx) % 2 ^ kx.bits → toI kx a = toI kx b := fun e => by rw [oa, ob, e]
  cases mx
  · simp only [Bool.false_eq_true, if_false, Builtin.min2, mmN]
    congr 2
    by_cases hle : (a + offK kx) % 2 ^ kx.bits ≤ (b + offK kx) % 2 ^ kx.bits
    · rw [if_neg (fun hlt => (hcmp2.1 hlt) hle), if_pos hle]
    · rw [if_pos (hcmp2.2 hle), if_neg hle]
  · simp only [if_true, Builtin.max2, mmN]
    congr 2
    by_cases hle : (a + offK kx) % 2 ^ kx.bits ≤ (b + offK kx) % 2 ^ kx.bits
    · rw [if_pos hle]
      by_cases hge : (b + offK kx) % 2 ^ kx.bits ≤ (a + offK kx) % 2 ^ kx.bits
      · rw [if_neg (fun hlt => (hcmp.1 hlt) hge)]; exact heq (Nat.le_antisymm hle hge)
      · rw [if_pos (hcmp.2 hge)]
    · rw [if_neg hle, if_neg (fun hlt => (hcmp.1 hlt) (by omega))]
theorem eMm3_ok {kd oo mo : Nat} {mx : Bool} {x y z : Arg} (h : eMm3 kd oo mo mx x y z id ph e H k = 1) : ∃ a b c, pgetA x e = .int kd a ∧ pgetA y e = .int kd b ∧ pgetA z e = .int kd c ∧ k (.int kd (mmN mx oo mo (mmN mx oo mo a b) c)) H = 1 := by
  unfold eMm3 at h
  rw [getA_eq] at h
  obtain ⟨k1, a, ha, h1⟩ := vInt_ok h
  rw [getA_eq] at h1
  obtain ⟨k2, b, hb, h2⟩ := vInt_ok h1
  rw [getA_eq] at h2
  obtain ⟨k3, c, hc, h3⟩ := vInt_ok h2
  obtain ⟨g1, g2⟩ := ifB_no h3
  obtain ⟨g3, g4⟩ := ifB_no g2
  obtain ⟨g5, g6⟩ := ifB_no g4
  have e1 := beq_of g1
  have e2 := beq_of g3
  have e3 := beq_of g5
  subst e1 e2 e3
  rw [pick2_eq, pick2_eq] at g6
  exact ⟨a, b, c, ha, hb, hc, g6⟩

theorem s_mm {mx : Bool} {as : Array Operand} {ts : Array TypeId} (hop : o.op = .call { callee := .builtin (if mx then .max else .min), args := as, argTypes := ts }) (h : evOp (compOp P nt o) id ph e H k = 1) : Good P nt o e H k := by
  have hnd : ∀ c, o.op ≠ .defer c := by simp [hop]
  have hc : compOp P nt o = match compArgs nt as.toList, ts.toList with
    | some [x, y], t :: _ => (match kindOf P t with | some k => .mm (kOf k) (offK k) (2 ^ k.bits) mx x y | none => .bad)
    | some [x, y, z], t :: _ => (match kindOf P t with | some k => .mm3 (kOf k) (offK k) (2 ^ k.bits) mx x y z | none => .bad)
    | _, _ => .bad := by cases mx <;> simp only [compOp, hop, compBuiltin, if_true, Bool.false_eq_true, if_false] <;> rfl
  have r2 : ∀ {kx : IntKind} {a b : Nat}, mx = false → a < kMod kx → b < kMod kx → Builtin.min2 (.int kx (toI kx a)) (.int kx (toI kx b)) = pure (.int kx (toI kx (mmN false (offK kx) (2 ^ kx.bits) a b))) := fun _ ha hb => run_mm2 false ha hb
  have r1 : ∀ {kx : IntKind} {a b : Nat}, mx = true → a < kMod kx → b < kMod kx → Builtin.max2 (.int kx (toI kx a)) (.int kx (toI kx b)) = pure (.int kx (toI kx (mmN true (offK kx) (2 ^ kx.bits) a b))) := fun _ ha hb => run_mm2 true ha hb
  rw [hc] at h
  split at h
  · rename_i x y t tr hx hts
    obtain ⟨p, q, rfl, hp', hq'⟩ := args2 hx
    split at h
    · rename_i kx hkx
      have h' : eMm (kOf kx) (offK kx) (2 ^ kx.bits) mx x y id ph e H k = 1 := h
      obtain ⟨a, b, ha, hb, h1⟩ := eMm_ok h'
      refine ⟨_, _, OpS.of_pure hnd fun m w ac ho => ?_, h1⟩
      have vx := ho p (by simp [hop, Op.operands, Call.operands]) x hp'
      have vy := ho q (by simp [hop, Op.operands, Call.operands]) y hq'
      rw [ha] at vx
      rw [hb] at vy
      simp only [VR, kKind_kOf] at vx vy
      refine ⟨.int kx (toI kx (mmN mx (offK kx) (2 ^ kx.bits) a b)), ?_, ?_⟩
      · rw [builtin_ex hop ac.eval]
        cases mx
        · simp only [Bool.false_eq_true, if_false, builtin, Builtin.min_, vx.1, vy.1, List.map_toArray, List.map_cons, List.map_nil, List.foldlM_cons, List.foldlM_nil, r2 rfl vx.2.1 vy.2.1, Sem.run_bind, Sem.run_pure, Result.andThen_ok]
        · simp only [if_true, builtin, Builtin.max_, vx.1, vy.1, List.map_toArray, List.map_cons, List.map_nil, List.foldlM_cons, List.foldlM_nil, r1 rfl vx.2.1 vy.2.1, Sem.run_bind, Sem.run_pure, Result.andThen_ok]
      · show VR m (.int (kOf kx) (mmN mx (offK kx) (2 ^ kx.bits) a b)) _
        simp only [VR, kKind_kOf]
        refine ⟨trivial, ?_, kOf_lt kx⟩
        rcases mmN_or mx (offK kx) (2 ^ kx.bits) a b with h | h <;> rw [h]
        · exact vx.2.1
        · exact vy.2.1
    · exact (no_ne h).elim
  · rename_i x y z t tr hx hts
    obtain ⟨p, q, r, rfl, hp', hq', hr'⟩ := args3 hx
    split at h
    · rename_i kx hkx
      have h' : eMm3 (kOf kx) (offK kx) (2 ^ kx.bits) mx x y z id ph e H k = 1 := h
      obtain ⟨a, b, c, ha, hb, hc, h1⟩ := eMm3_ok h'
      refine ⟨_, _, OpS.of_pure hnd fun m w ac ho => ?_, h1⟩
      have vx := ho p (by simp [hop, Op.operands, Call.operands]) x hp'
      have vy := ho q (by simp [hop, Op.operands, Call.operands]) y hq'
      have vz := ho r (by simp [hop, Op.operands, Call.operands]) z hr'
      rw [ha] at vx
      rw [hb] at vy
      rw [hc] at vz
      simp only [VR, kKind_kOf] at vx vy vz
      have hm1 : mmN mx (offK kx) (2 ^ kx.bits) a b < kMod kx := by
        rcases mmN_or mx (offK kx) (2 ^ kx.bits) a b with h | h <;> rw [h]
        · exact vx.2.1
        · exact vy.2.1
      refine ⟨.int kx (toI kx (mmN mx (offK kx) (2 ^ kx.bits) (mmN mx (offK kx) (2 ^ kx.bits) a b) c)), ?_, ?_⟩
      · rw [builtin_ex hop ac.eval]
        cases mx
        · simp only [Bool.false_eq_true, if_false, builtin, Builtin.min_, vx.1, vy.1, vz.1, List.map_toArray, List.map_cons, List.map_nil, List.foldlM_cons, List.foldlM_nil, r2 rfl vx.2.1 vy.2.1, r2 rfl hm1 vz.2.1, Sem.run_bind, Sem.run_pure, Result.andThen_ok]
        · simp only [if_true, builtin, Builtin.max_, vx.1, vy.1, vz.1, List.map_toArray, List.map_cons, List.map_nil, List.foldlM_cons, List.foldlM_nil, r1 rfl vx.2.1 vy.2.1, r1 rfl hm1 vz.2.1, Sem.run_bind, Sem.run_pure, Result.andThen_ok]
      · simp only [VR, kKind_kOf]
        refine ⟨trivial, ?_, kOf_lt kx⟩
        rcases mmN_or mx (offK kx) (2 ^ kx.bits) (mmN mx (offK kx) (2 ^ kx.bits) a b) c with h | h <;> rw [h]
        · exact hm1
        · exact vz.2.1
    · exact (no_ne h).elim
  · exact (no_ne h).elim
end
end Go.Ev
