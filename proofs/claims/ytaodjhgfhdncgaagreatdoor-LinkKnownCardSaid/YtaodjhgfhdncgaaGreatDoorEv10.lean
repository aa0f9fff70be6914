/- OPERATIONS THAT TOUCH NO MEMORY. -/
import Derived.Test.YtaodjhgfhdncgaaGreatDoorEv9
import Derived.WideShapes
set_option linter.unusedSectionVars false
set_option linter.unusedVariables false
set_option linter.unusedSimpArgs false
set_option maxRecDepth 10000
namespace Go.Ev
open Go.RowKit

section
variable {P : Program} {nt : Nat} {o : Oper} {id : Nat} {ph : Phi} {e : Env} {H : Heap} {k : K}

theorem run_underlying' {t : TypeId} {d : TypeDesc} (h : P.underlying t = some d) (w : World) : (underlying t).run P w = .ok d w := run_underlying h w

theorem s_nilc {x : Operand} (hop : o.op = .nilCheck x) (h : evOp (compOp P nt o) id ph e H k = 1) : Good P nt o e H k := by
  simp only [compOp, hop] at h
  split at h
  · rename_i a ha
    have h' : getA a e _ = 1 := h
    rw [getA_eq] at h'
    have key : k (pgetA a e) H = 1 ∧ pgetA a e ≠ .nilp ∧ pgetA a e ≠ .nilf ∧ pgetA a e ≠ .nili := by
      generalize pgetA a e = v at h'
      cases v <;> first | exact (no_ne h').elim | exact ⟨h', by simp, by simp, by simp⟩
    refine ⟨_, _, OpS.of_pure (by simp [hop]) fun m w ac ho => ?_, key.1⟩
    have h3 := ho x (by simp [Op.operands, hop]) a ha
    refine ⟨ac.eval x, ?_, h3⟩
    obtain ⟨_, h4, h5, h6⟩ := key
    generalize pgetA a e = v at h3 h4 h5 h6
    cases v <;> simp only [VR] at h3 <;>
      first
      | exact absurd rfl h4
      | exact absurd rfl h5
      | exact absurd rfl h6
      | (simp [execOp, hop, h3]; done)
      | (obtain ⟨h3, _⟩ := h3; simp [execOp, hop, h3]; done)
      | (obtain ⟨c, h3, _⟩ := h3; simp [execOp, hop, h3]; done)
      | (obtain ⟨c, d, o, h3, _⟩ := h3; simp [execOp, hop, h3]; done)
  · exact (no_ne h).elim

theorem run_eqGuard_int {op : BinOp} {t : TypeId} {x y : Operand} {k1 k2 : IntKind} {a b : Int} {w : World} : (eqGuard op t x y (.int k1 a) (.int k2 b)).run P w = .ok () w := by
  unfold eqGuard
  cases op <;> simp
theorem run_eqGuard_str {op : BinOp} {t : TypeId} {x y : Operand} {a b : ByteArray} {w : World} : (eqGuard op t x y (.string a) (.string b)).run P w = .ok () w := by
  unfold eqGuard
  cases op <;> simp

theorem eBin_ok {kd ky : Nat} {f : BF} {x y : Arg} (h : eBin kd ky f x y id ph e H k = 1) : ∃ a b, pgetA x e = .int kd a ∧ pgetA y e = .int ky b ∧ evBF id f a b (fun r => k (.int kd r) H) = 1 := by
  unfold eBin at h
  rw [getA_eq] at h
  obtain ⟨k1, a, ha, h1⟩ := vInt_ok h
  rw [getA_eq] at h1
  obtain ⟨k2, b, hb, h2⟩ := vInt_ok h1
  obtain ⟨h3, h4⟩ := ifB_no h2
  obtain ⟨h5, h6⟩ := ifB_no h4
  have := beq_of h3
  have := beq_of h5
  subst_vars
  exact ⟨a, b, ha, hb, h6⟩

theorem kOf_kKind {n : Nat} (h : n < 8) : kOf (kKind n) = n := by
  rcases (by omega : n = 0 ∨ n = 1 ∨ n = 2 ∨ n = 3 ∨ n = 4 ∨ n = 5 ∨ n = 6 ∨ n = 7) with rfl | rfl | rfl | rfl | rfl | rfl | rfl | rfl <;> rfl

def nc : V → Option Nat
  | .bool true => some 2 | .bool false => some 3 | .ptr _ _ => some 11 | .nilp => some 10 | .slice _ _ _ _ _ => some 21 | .nils => some 20 | .map _ => some 31 | .nilm => some 30
  | .func _ _ => some 41 | .nilf => some 40 | .iface _ _ => some 51 | .nili => some 50 | _ => none
theorem nilly_ok {x : V} {k : Nat → R} (h : nilly id x k = 1) : ∃ c, nc x = some c ∧ k c = 1 := by
  cases x <;> first | exact (no_ne h).elim | exact ⟨_, rfl, h⟩ | (rename_i b; cases b <;> exact ⟨_, rfl, h⟩)
theorem eEqv_ok {kc : Nat} {neg : Bool} {x y : Arg} (h : eEqv kc neg x y id ph e H k = 1) : ∃ a b, nc (pgetA x e) = some a ∧ nc (pgetA y e) = some b ∧ a / 10 = kc ∧ b / 10 = kc ∧ (a = b → a % 10 ≠ 1) ∧ k (.bool (if neg then !decide (a = b) else decide (a = b))) H = 1 := by
  unfold eEqv at h
  rw [getA_eq] at h
  obtain ⟨a, h1, h2⟩ := nilly_ok h
  rw [getA_eq] at h2
  obtain ⟨b, h3, h4⟩ := nilly_ok h2
  obtain ⟨h5, h6⟩ := ifB_no h4
  obtain ⟨h7, h8⟩ := ifB_no h6
  refine ⟨a, b, h1, h3, beq_of h5, beq_of h7, ?_⟩
  rcases ifB_or h8 with ⟨h9, h10⟩ | ⟨h9, h10⟩
  · have e := beq_of h9
    subst e
    rcases ifB_or h10 with ⟨_, h11⟩ | ⟨h11, h12⟩
    · exact (no_ne h11).elim
    · rw [beq_dec] at h11
      have h11' : ¬ (a % 10 = 1) := of_decide_eq_false h11
      refine ⟨fun _ => h11', ?_⟩
      rcases ifB_or h12 with ⟨h13, h14⟩ | ⟨h13, h14⟩ <;> subst h13 <;> simpa using h14
  · rw [beq_dec] at h9
    have h9' : a ≠ b := by simpa using h9
    refine ⟨fun e => absurd e h9', ?_⟩
    cases neg <;> simpa [h9'] using h10

theorem nc_ptr {x : V} {a : Nat} (h : nc x = some a) (hk : a / 10 = 1) : (x = .nilp ∧ a = 10) ∨ ∃ b o, x = .ptr b o ∧ a = 11 := by
  cases x <;> simp only [nc, Option.some.injEq, reduceCtorEq] at h <;> (try subst h) <;> first | exact Or.inl ⟨rfl, rfl⟩ | exact Or.inr ⟨_, _, rfl, rfl⟩ | (simp at hk; done) | (rename_i q; cases q <;> simp only [nc, Option.some.injEq] at h <;> subst h <;> simp at hk)
theorem nc_slice {x : V} {a : Nat} (h : nc x = some a) (hk : a / 10 = 2) : (x = .nils ∧ a = 20) ∨ ∃ b o l c s, x = .slice b o l c s ∧ a = 21 := by
  cases x <;> simp only [nc, Option.some.injEq, reduceCtorEq] at h <;> (try subst h) <;> first | exact Or.inl ⟨rfl, rfl⟩ | exact Or.inr ⟨_, _, _, _, _, rfl, rfl⟩ | (simp at hk; done) | (rename_i q; cases q <;> simp only [nc, Option.some.injEq] at h <;> subst h <;> simp at hk)
theorem nc_map {x : V} {a : Nat} (h : nc x = some a) (hk : a / 10 = 3) : (x = .nilm ∧ a = 30) ∨ ∃ b, x = .map b ∧ a = 31 := by
  cases x <;> simp only [nc, Option.some.injEq, reduceCtorEq] at h <;> (try subst h) <;> first | exact Or.inl ⟨rfl, rfl⟩ | exact Or.inr ⟨_, rfl, rfl⟩ | (simp at hk; done) | (rename_i q; cases q <;> simp only [nc, Option.some.injEq] at h <;> subst h <;> simp at hk)
theorem nc_func {x : V} {a : Nat} (h : nc x = some a) (hk : a / 10 = 4) : (x = .nilf ∧ a = 40) ∨ ∃ f l, x = .func f l ∧ a = 41 := by
  cases x <;> simp only [nc, Option.some.injEq, reduceCtorEq] at h <;> (try subst h) <;> first | exact Or.inl ⟨rfl, rfl⟩ | exact Or.inr ⟨_, _, rfl, rfl⟩ | (simp at hk; done) | (rename_i q; cases q <;> simp only [nc, Option.some.injEq] at h <;> subst h <;> simp at hk)
theorem nc_iface {x : V} {a : Nat} (h : nc x = some a) (hk : a / 10 = 5) : (x = .nili ∧ a = 50) ∨ ∃ t v, x = .iface t v ∧ a = 51 := by
  cases x <;> simp only [nc, Option.some.injEq, reduceCtorEq] at h <;> (try subst h) <;> first | exact Or.inl ⟨rfl, rfl⟩ | exact Or.inr ⟨_, _, rfl, rfl⟩ | (simp at hk; done) | (rename_i q; cases q <;> simp only [nc, Option.some.injEq] at h <;> subst h <;> simp at hk)
theorem nc_bool {x : V} {a : Nat} (h : nc x = some a) (hk : a / 10 = 0) : (x = .bool true ∧ a = 2) ∨ (x = .bool false ∧ a = 3) := by
  cases x <;> simp only [nc, Option.some.injEq, reduceCtorEq] at h <;> (try subst h) <;> first | (simp at hk; done) | (rename_i q; cases q <;> simp only [nc, Option.some.injEq] at h <;> subst h <;> first | exact Or.inl ⟨rfl, rfl⟩ | exact Or.inr ⟨rfl, rfl⟩)
def KindT (P : Program) (kc : Nat) (t : TypeId) : Prop := (kc = 0 ∧ P.underlying t = some .bool) ∨ (kc = 1 ∧ ∃ d, P.underlying t = some (.pointer d)) ∨ (kc = 2 ∧ ∃ d, P.underlying t = some (.slice d)) ∨ (kc = 3 ∧ ∃ d d', P.underlying t = some (.map d d')) ∨ (kc = 4 ∧ ∃ d d' d'', P.underlying t = some (.func d d' d'')) ∨ (kc = 5 ∧ ∃ d, P.underlying t = some (.interface d))
/-- Two values' equality, where one of them is nil, or both are bools. -/
theorem eqv_run {kc : Nat} {t : TypeId} {m : M} {x y : V} {cx cy : Value} {a b : Nat} {w : World} (hu : KindT P kc t)
    (hx : VR m x cx) (hy : VR m y cy) (ha : nc x = some a) (hb : nc y = some b) (hka : a / 10 = kc) (hkb : b / 10 = kc) (hab : a = b → a % 10 ≠ 1) : (Op.equal t cx cy).run P w = .ok (decide (a = b)) w := by
  show (Op.equalIn (9999 + 1) t cx cy).run P w = _
  generalize 9999 = dd
  rcases hu with ⟨rfl, hu⟩ | ⟨rfl, d, hu⟩ | ⟨rfl, d, hu⟩ | ⟨rfl, d, d', hu⟩ | ⟨rfl, d, d', d'', hu⟩ | ⟨rfl, d, hu⟩
  · rcases nc_bool ha hka with ⟨rfl, rfl⟩ | ⟨rfl, rfl⟩ <;> rcases nc_bool hb hkb with ⟨rfl, rfl⟩ | ⟨rfl, rfl⟩ <;> simp only [VR] at hx hy <;> subst hx hy <;>
      (simp only [Op.equalIn, Sem.run_bind, run_underlying hu, Result.andThen_ok]; rfl)
  · rcases nc_ptr ha hka with ⟨rfl, rfl⟩ | ⟨p, q, rfl, rfl⟩ <;> rcases nc_ptr hb hkb with ⟨rfl, rfl⟩ | ⟨p', q', rfl, rfl⟩ <;> simp only [VR] at hx hy <;> first | exact absurd rfl (hab rfl) | skip
    · subst hx hy; (simp only [Op.equalIn, Sem.run_bind, run_underlying hu, Result.andThen_ok]; rfl)
    · obtain ⟨c, rfl, _⟩ := hy; subst hx; (simp only [Op.equalIn, Sem.run_bind, run_underlying hu, Result.andThen_ok]; rfl)
    · obtain ⟨c, rfl, _⟩ := hx; subst hy; (simp only [Op.equalIn, Sem.run_bind, run_underlying hu, Result.andThen_ok]; rfl)
  · rcases nc_slice ha hka with ⟨rfl, rfl⟩ | ⟨p, q, r, s, s1, rfl, rfl⟩ <;> rcases nc_slice hb hkb with ⟨rfl, rfl⟩ | ⟨p', q', r', s', s2, rfl, rfl⟩ <;> simp only [VR] at hx hy <;> first | exact absurd rfl (hab rfl) | skip
    · subst hx hy; (simp only [Op.equalIn, Sem.run_bind, run_underlying hu, Result.andThen_ok]; rfl)
    · obtain ⟨c, cap, o', rfl, _⟩ := hy; subst hx; (simp only [Op.equalIn, Sem.run_bind, run_underlying hu, Result.andThen_ok]; rfl)
    · obtain ⟨c, cap, o', rfl, _⟩ := hx; subst hy; (simp only [Op.equalIn, Sem.run_bind, run_underlying hu, Result.andThen_ok]; rfl)
  · rcases nc_map ha hka with ⟨rfl, rfl⟩ | ⟨p, rfl, rfl⟩ <;> rcases nc_map hb hkb with ⟨rfl, rfl⟩ | ⟨p', rfl, rfl⟩ <;> simp only [VR] at hx hy <;> first | exact absurd rfl (hab rfl) | skip
    · subst hx hy; (simp only [Op.equalIn, Sem.run_bind, run_underlying hu, Result.andThen_ok]; rfl)
    · obtain ⟨c, rfl, _⟩ := hy; subst hx; (simp only [Op.equalIn, Sem.run_bind, run_underlying hu, Result.andThen_ok]; rfl)
    · obtain ⟨c, rfl, _⟩ := hx; subst hy; (simp only [Op.equalIn, Sem.run_bind, run_underlying hu, Result.andThen_ok]; rfl)
  · rcases nc_func ha hka with ⟨rfl, rfl⟩ | ⟨p, q, rfl, rfl⟩ <;> rcases nc_func hb hkb with ⟨rfl, rfl⟩ | ⟨p', q', rfl, rfl⟩ <;> simp only [VR] at hx hy <;> first | exact absurd rfl (hab rfl) | skip
    · subst hx hy; (simp only [Op.equalIn, Sem.run_bind, run_underlying hu, Result.andThen_ok]; rfl)
    · obtain ⟨c, rfl, _⟩ := hy; subst hx; (simp only [Op.equalIn, Sem.run_bind, run_underlying hu, Result.andThen_ok]; rfl)
    · obtain ⟨c, rfl, _⟩ := hx; subst hy; (simp only [Op.equalIn, Sem.run_bind, run_underlying hu, Result.andThen_ok]; rfl)
  · rcases nc_iface ha hka with ⟨rfl, rfl⟩ | ⟨p, q, rfl, rfl⟩ <;> rcases nc_iface hb hkb with ⟨rfl, rfl⟩ | ⟨p', q', rfl, rfl⟩ <;> simp only [VR] at hx hy <;> first | exact absurd rfl (hab rfl) | skip
    · subst hx hy; (simp only [Op.equalIn, Sem.run_bind, run_underlying hu, Result.andThen_ok]; rfl)
    · obtain ⟨c, rfl, _⟩ := hy; subst hx; (simp only [Op.equalIn, Sem.run_bind, run_underlying hu, Result.andThen_ok]; rfl)
    · obtain ⟨c, rfl, _⟩ := hx; subst hy; (simp only [Op.equalIn, Sem.run_bind, run_underlying hu, Result.andThen_ok]; rfl)

theorem nc_shape {m : M} {x : V} {cx : Value} {a : Nat} (hx : VR m x cx) (ha : nc x = some a) : (∀ l, cx ≠ .agg l) ∧ (cx = .nilIface → a / 10 = 5) := by
  cases x <;> simp only [VR] at hx <;>
    first
    | (simp only [nc, reduceCtorEq] at ha; done)
    | (subst hx; refine ⟨fun _ => nofun, fun e => ?_⟩; first | (cases e; done) | (simp only [nc, Option.some.injEq] at ha; subst ha; rfl))
    | (obtain ⟨hx, _⟩ := hx; subst hx; exact ⟨fun _ => nofun, nofun⟩)
    | (obtain ⟨_, hx, _⟩ := hx; subst hx; first | exact ⟨fun _ => nofun, nofun⟩ | (simp only [nc, reduceCtorEq] at ha))
    | (obtain ⟨_, _, _, hx, _⟩ := hx; subst hx; exact ⟨fun _ => nofun, nofun⟩)
theorem run_eqGuard_eqv {op : BinOp} {kc : Nat} {t : TypeId} {m : M} {ox oy : Operand} {x y : V} {cx cy : Value} {a b : Nat} {w : World} (hx : VR m x cx) (hy : VR m y cy) (ha : nc x = some a) (hb : nc y = some b) (hka : a / 10 = kc) (hkb : b / 10 = kc)
    (hc : kc = 5 → (∃ v, ox = .const v) ∨ ∃ v, oy = .const v) : (eqGuard op t ox oy cx cy).run P w = .ok () w := by
  obtain ⟨h1, h2⟩ := nc_shape hx ha
  unfold eqGuard
  cases op <;> try rfl
  all_goals
    cases cx <;> try rfl
    case agg l => exact absurd rfl (h1 l)
    case nilIface =>
      cases cy <;> try rfl
      rcases hc (hka.symm.trans (h2 rfl)) with ⟨v, rfl⟩ | ⟨v, rfl⟩
      · rfl
      · cases ox <;> rfl

theorem isC_const {x : Operand} {ar : Arg} {nt : Nat} {e : Env} (h : compArg nt x = some ar) (hi : isC ar = true) {a : Nat} (hn : nc (pgetA ar e) = some a) (hk : a / 10 = 5) : ∃ v, x = .const v := by
  unfold compArg at h
  split at h
  · split at h <;> cases h; cases hi
  · exact ⟨_, rfl⟩
  · cases h
    simp [pgetA, nc] at hn
    subst hn
    simp at hk
  · cases h

theorem eqv_good {kc : Nat} {op : BinOp} {xt yt : TypeId} {x y : Operand} {x' y' : Arg} (hop : o.op = .binOp op xt x y yt) (hx : compArg nt x = some x') (hy : compArg nt y = some y') (hu : KindT P kc xt) (hc : kc = 5 → isC x' = true ∨ isC y' = true)
    (h : evOp (eqvOp kc op x' y') id ph e H k = 1) : Good P nt o e H k := by
  have mem : x ∈ o.op.operands ∧ y ∈ o.op.operands := by simp [hop, Op.operands]
  have hnd : ∀ c, o.op ≠ .defer c := by simp [hop]
  have key : ∀ neg : Bool, (op = if neg then .neq else .eql) → eEqv kc neg x' y' id ph e H k = 1 → Good P nt o e H k := by
    intro neg hneg h'
    obtain ⟨a, b, h1, h2, h3, h4, h5, h6⟩ := eEqv_ok h'
    refine ⟨_, _, OpS.of_pure hnd fun m w ac ho => ?_, h6⟩
    have vx := ho x mem.1 x' hx
    have vy := ho y mem.2 y' hy
    have hc' : kc = 5 → (∃ v, x = .const v) ∨ ∃ v, y = .const v := fun e5 => (hc e5).imp (fun hi => isC_const hx hi h1 (h3.trans e5)) (fun hi => isC_const hy hi h2 (h4.trans e5))
    have hr := eqv_run (w := w) hu vx vy h1 h2 h3 h4 h5
    have hg := run_eqGuard_eqv (P := P) (op := op) (t := xt) (w := w) vx vy h1 h2 h3 h4 hc'
    refine ⟨.bool (if neg then !decide (a = b) else decide (a = b)), ?_, by simp only [VR]⟩
    simp only [execOp, hop, Sem.run_bind, hg, Result.andThen_ok]
    have hb : (binOp op xt (ac.eval x) (ac.eval y)).run P w = .ok (.bool (if neg then !decide (a = b) else decide (a = b))) w := by
      have hb' : binOp op xt (ac.eval x) (ac.eval y) = if neg then (do pure (.bool (!(← Op.equal xt (ac.eval x) (ac.eval y))))) else (do pure (.bool (← Op.equal xt (ac.eval x) (ac.eval y)))) := by
        subst hneg
        generalize ac.eval x = cx at vx
        generalize ac.eval y = cy at vy
        cases hq : pgetA x' e <;> rw [hq] at h1 vx <;> simp only [nc, Option.some.injEq, reduceCtorEq] at h1 <;> simp only [VR] at vx <;>
          first
          | (subst vx; cases neg <;> cases cy <;> rfl)
          | (obtain ⟨c1, vx, _⟩ := vx; subst vx; cases neg <;> cases cy <;> rfl)
          | (obtain ⟨c1, c2, c3, vx, _⟩ := vx; subst vx; cases neg <;> cases cy <;> rfl)
      rw [hb']
      cases neg <;> simp [hr]
    rw [hb]
    rfl
  unfold eqvOp at h
  split at h
  · exact key false (by simp) h
  · exact key true (by simp) h
  · exact (no_ne h).elim
end
end Go.Ev
