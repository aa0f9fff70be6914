/- STRUCTS, COMPARED CELL BY CELL; every comparison and sum. -/
import Derived.Test.YtaodjhgfhdncgaaGreatDoorEv11
import Derived.Laws.StructEq
import Derived.ChangeKeysEq
set_option linter.unusedVariables false
set_option linter.unusedSimpArgs false
set_option linter.unusedSectionVars false
namespace Go.Ev
open Go.RowKit

section
variable {P : Program} {nt : Nat} {o : Oper} {id : Nat} {ph : Phi} {e : Env} {H : Heap} {k : K}

/-! ### structs, cell by cell -/
/-- Two cells of a kind, compared. -/
def Leaf (P : Program) (c : Nat) (a b : V) (r : Bool) : Prop := ∀ (m : M) (cx cy : Value), VR m a cx → VR m b cy → ∀ (dd : Nat) (t : TypeId) (w : World), (c = 0 → P.underlying t = some .bool) → (c = 1 → ∃ q, P.underlying t = some (.int q)) → (2 ≤ c → P.underlying t = some .string) → (Op.equalIn (dd + 1) t cx cy).run P w = .ok r w
theorem leafEq_ok {c : Nat} {x y : V} {k : Bool → R} (h : leafEq id c x y k = 1) : ∃ r, k r = 1 ∧ Leaf P c x y r := by
  match c, h with
  | 0, h =>
    have h' : vBool id x (fun a => vBool id y fun b => ifB a (k b) (ifB b (k false) (k true))) = 1 := h
    obtain ⟨a, rfl, h1⟩ := vBool_ok h'
    obtain ⟨b, rfl, h2⟩ := vBool_ok h1
    refine ⟨a == b, by cases a <;> cases b <;> exact h2, fun m cx cy vx vy dd t w h0 _ _ => ?_⟩
    simp only [VR] at vx vy
    subst vx vy
    exact run_equalIn_bool' w dd t a b (h0 rfl)
  | 1, h =>
    have h' : vInt id x (fun k1 a => vInt id y fun k2 b => ifB (Nat.beq k1 k2) (k (Nat.beq a b)) (no _)) = 1 := h
    obtain ⟨k1, a, rfl, h1⟩ := vInt_ok h'
    obtain ⟨k2, b, rfl, h2⟩ := vInt_ok h1
    obtain ⟨h3, h4⟩ := ifB_no h2
    have := beq_of h3
    subst this
    refine ⟨_, h4, fun m cx cy vx vy dd t w _ h1 _ => ?_⟩
    obtain ⟨q, hq⟩ := h1 rfl
    simp only [VR] at vx vy
    rw [vx.1, vy.1, run_equalIn_int w dd t _ q _ _ hq, beq_dec]
    congr 1
    by_cases hab : a = b
    · subst hab; simp
    · have : toI (kKind k1) a ≠ toI (kKind k1) b := fun e => hab (toI_inj _ vx.2.1 vy.2.1 e)
      simp [hab, this]
  | c + 2, h =>
    have h' : vStr id x (fun l1 a => vStr id y fun l2 b => ifB (Nat.beq l1 l2) (k (Nat.beq a b)) (k false)) = 1 := h
    obtain ⟨l1, a, rfl, h1⟩ := vStr_ok h'
    obtain ⟨l2, b, rfl, h2⟩ := vStr_ok h1
    have hf : k (decide (l1 = l2) && decide (a = b)) = 1 := by
      rcases ifB_or h2 with ⟨h3, h4⟩ | ⟨h3, h4⟩
      · rw [beq_dec] at h3 h4
        rw [h3]; exact h4
      · rw [beq_dec] at h3
        rw [h3]; exact h4
    refine ⟨_, hf, fun m cx cy vx vy dd t w _ _ h2 => ?_⟩
    simp only [VR] at vx vy
    rw [vx.1, vy.1, run_equalIn_string w dd t _ _ (h2 (by omega))]
    congr 1
    rw [ByteArray.toList_eq, ByteArray.toList_eq]
    by_cases hl : l1 = l2
    · subst hl
      by_cases hab : a = b
      · subst hab; simp
      · simp only [hab, decide_false, Bool.and_false, beq_eq_false_iff_ne, ne_eq]
        intro e
        exact hab (sbytes_inj vx.2 vy.2 (by simpa using e))
    · simp only [hl, decide_false, Bool.false_and, beq_eq_false_iff_ne, ne_eq]
      intro e
      have := congrArg List.length e
      simp [sbytes_length] at this
      exact hl this

def EqC (P : Program) : List Nat → List V → List V → Bool → Prop
  | [], _, _, b => b = true
  | c :: cls, l, m, b => ∃ a l' a' m' r, l = a :: l' ∧ m = a' :: m' ∧ Leaf P c a a' r ∧ (r = true → EqC P cls l' m' b) ∧ (r = false → b = false)
theorem eqCs_ok : ∀ {cls : List Nat} {l m : List V} {k : Bool → R}, eqCs id cls l m k = 1 → ∃ b, k b = 1 ∧ EqC P cls l m b
  | [], l, m, k, h => ⟨true, h, rfl⟩
  | c :: cls, [], m, k, h => (no_ne h).elim
  | c :: cls, a :: l, [], k, h => (no_ne h).elim
  | c :: cls, a :: l, a' :: m, k, h => by
    have h' : leafEq id c a a' (fun r => ifB r (eqCs id cls l m k) (k false)) = 1 := h
    obtain ⟨r, h1, h2⟩ := leafEq_ok (P := P) h'
    cases r with
    | true =>
      obtain ⟨b, h3, h4⟩ := eqCs_ok (show eqCs id cls l m k = 1 from h1)
      exact ⟨b, h3, a, l, a', m, true, rfl, rfl, h2, fun _ => h4, fun h => (by cases h)⟩
    | false => exact ⟨false, h1, a, l, a', m, false, rfl, rfl, h2, fun h => (by cases h), fun _ => rfl⟩
theorem EqC.split : ∀ {c r : List Nat} {l m : List V} {b : Bool}, EqC P (c ++ r) l m b → ∃ b1, EqC P c (l.take c.length) (m.take c.length) b1 ∧ (b1 = true → EqC P r (l.drop c.length) (m.drop c.length) b) ∧ (b1 = false → b = false)
  | [], r, l, m, b, h => ⟨true, rfl, fun _ => by simpa using h, fun h => (by cases h)⟩
  | c :: cs, r, l, m, b, h => by
    obtain ⟨a, l', a', m', q, rfl, rfl, h1, h2, h3⟩ := h
    cases q with
    | true =>
      obtain ⟨b1, h4, h5, h6⟩ := EqC.split (h2 rfl)
      exact ⟨b1, ⟨a, _, a', _, true, rfl, rfl, h1, fun _ => h4, fun h => (by cases h)⟩, fun e => by simpa using h5 e, h6⟩
    | false => exact ⟨false, ⟨a, _, a', _, false, rfl, rfl, h1, fun h => (by cases h), fun _ => rfl⟩, fun h => (by cases h), fun _ => h3 rfl⟩

theorem szT_some {t : TypeId} {n : Nat} (h : szT P t = some n) : (P.info? t).map (·.size) = some n := h

/-- What a type that is compared cell by cell says of its values. -/
theorem cmpT_leaf {t : TypeId} {d : Nat} {c : List Nat} (h : cmpT P (d + 1) t = some c) : (aggT P t = some false ∧ ∃ q, c = [q] ∧ (q = 0 → P.underlying t = some .bool) ∧ (q = 1 → ∃ kd, P.underlying t = some (.int kd)) ∧ (2 ≤ q → P.underlying t = some .string)) ∨
    (aggT P t = some true ∧ P.underlying t = some (.struct (P.fieldsOf t)) ∧ P.stoodInHeld t = false ∧ cmpFs P (cmpT P d) (P.fieldsOf t).toList 0 = some c) := by
  simp only [cmpT] at h
  split at h
  · rename_i hu; cases h; exact Or.inl ⟨by simp [aggT, hu], 0, rfl, fun _ => hu, fun h => (by cases h), fun h => (by omega)⟩
  · rename_i q hu; cases h; exact Or.inl ⟨by simp [aggT, hu], 1, rfl, fun h => (by cases h), fun _ => ⟨q, hu⟩, fun h => (by omega)⟩
  · rename_i hu; cases h; exact Or.inl ⟨by simp [aggT, hu], 2, rfl, fun h => (by cases h), fun h => (by cases h), fun _ => hu⟩
  · rename_i fs hu
    split at h
    · cases h
    · rename_i hs
      have hf : P.fieldsOf t = fs := by simp [Program.fieldsOf, hu]
      exact Or.inr ⟨by simp [aggT, hu], by rw [hf]; exact hu, by simpa using hs, by rw [hf]; exact h⟩
  · cases h

/-- Cell by cell is as the model compares. -/
theorem eqAgg_run {m : M} {w : World} : ∀ (d : Nat) (t : TypeId) (c : List Nat), cmpT P d t = some c → ∀ (dd : Nat), d ≤ dd → ∀ (cx cy : Value) (l l' : List V) (b : Bool), EqC P c l l' b → l.length = c.length → l'.length = c.length →
    ((aggT P t = some false → ∃ v v' : V, l = [v] ∧ l' = [v'] ∧ VR m v cx ∧ VR m v' cy) ∧ (aggT P t = some true → ∃ xs ys, cx = .agg xs ∧ cy = .agg ys ∧ VRs m l xs.toList ∧ VRs m l' ys.toList)) → (Op.equalIn dd t cx cy).run P w = .ok b w
  | 0, t, c, h, _, _, _, _, _, _, _, _, _, _, _ => by simp [cmpT] at h
  | d + 1, t, c, h, 0, hdd, _, _, _, _, _, _, _, _, _ => by omega
  | d + 1, t, c, h, dd + 1, hdd, cx, cy, l, l', b, heq, hl1, hl2, hv => by
    rcases cmpT_leaf h with ⟨ha, q, rfl, h0, h1, h2⟩ | ⟨ha, hu, hs, hf⟩
    · obtain ⟨v, v', rfl, rfl, v1, v2⟩ := hv.1 ha
      obtain ⟨a, r1, a', r2, r, e1, e2, hl, g1, g2⟩ := heq
      cases e1; cases e2
      have hr := hl m cx cy v1 v2 dd t w h0 h1 h2
      cases r with
      | true =>
        have : b = true := g1 rfl
        subst this; exact hr
      | false => rw [g2 rfl]; exact hr
    · obtain ⟨xs, ys, rfl, rfl, v1, v2⟩ := hv.2 ha
      rw [run_equalIn_struct w dd t xs ys hu hs]
      clear h ha hu hs hv
      generalize (P.fieldsOf t).toList = fs at hf
      have key : ∀ (fs : List Field) (off : Nat) (c : List Nat) (b : Bool), cmpFs P (cmpT P d) fs off = some c → EqC P c (l.drop off) (l'.drop off) b → l.length = off + c.length → l'.length = off + c.length → (Op.eqFields dd xs ys fs).run P w = .ok b w := by
        intro fs
        induction fs with
        | nil =>
          intro off c b hc he _ _
          simp only [cmpFs, Option.some.injEq] at hc
          subst hc
          have : b = true := he
          subst this
          simp [Op.eqFields]
        | cons f fs ih =>
          intro off c b hc he hle hle'
          simp only [cmpFs] at hc
          split at hc
          · cases hc
          · rename_i hn
            split at hc
            · rename_i cf s r h1 h2 h3
              split at hc
              · rename_i h4
                cases hc
                rw [Bool.and_eq_true] at h4
                have hoff : f.offset = off := by simpa using h4.1
                have hsz : s = cf.length := by simpa using h4.2
                rw [h2] at h3
                simp only [Option.getD_some] at h3
                obtain ⟨b1, g1, g2, g3⟩ := EqC.split he
                have hn' : f.name ≠ "_" := by simpa using hn
                -- the parts
                have hd : ∃ d', d = d' + 1 := by
                  cases d with
                  | zero => simp [cmpT] at h1
                  | succ d' => exact ⟨d', rfl⟩
                obtain ⟨d', rfl⟩ := hd
                have hpart : ∃ p p', (part f.type xs f.offset).run P w = .ok p w ∧ (part f.type ys f.offset).run P w = .ok p' w ∧ (Op.equalIn dd f.type p p').run P w = .ok b1 w := by
                  rw [hoff]
                  rcases cmpT_leaf h1 with ⟨ha, q, rfl, _⟩ | ⟨ha, _⟩
                  · have g1' := g1
                    obtain ⟨a, r1, a', r2, rr, e1, e2, _⟩ := g1'
                    have e1' : l[off]? = some a := by
                      have := congrArg (fun z => z[0]?) e1
                      simpa using this
                    have e2' : l'[off]? = some a' := by
                      have := congrArg (fun z => z[0]?) e2
                      simpa using this
                    obtain ⟨p, q1, q2⟩ := (run_part (P := P) (t := f.type) (off := off) v1 (w := w)).2 a ha e1'
                    obtain ⟨p', q3, q4⟩ := (run_part (P := P) (t := f.type) (off := off) v2 (w := w)).2 a' ha e2'
                    have hone : ∀ (z : List V) (x : V) (r : List V), (z.drop off).take 1 = x :: r → (z.drop off).take 1 = [x] := fun z x r e => by
                      have hl := congrArg List.length e
                      simp only [List.length_take, List.length_cons] at hl
                      have : r = [] := by
                        cases r with
                        | nil => rfl
                        | cons => simp at hl; omega
                      rw [e, this]
                    exact ⟨p, p', q1, q3, eqAgg_run (d' + 1) f.type _ h1 dd (by omega) p p' _ _ b1 g1 ((congrArg List.length (hone _ _ _ e1)).trans rfl) ((congrArg List.length (hone _ _ _ e2)).trans rfl) ⟨fun _ => ⟨a, a', hone _ _ _ e1, hone _ _ _ e2, q2, q4⟩, fun h => (by rw [ha] at h; cases h)⟩⟩
                  · rw [List.length_append] at hle hle'
                    obtain ⟨p, q1, q2⟩ := (run_part (P := P) (t := f.type) (off := off) v1 (w := w)).1 s ha h2 (by omega)
                    obtain ⟨p', q3, q4⟩ := (run_part (P := P) (t := f.type) (off := off) v2 (w := w)).1 s ha h2 (by omega)
                    rw [hsz] at q2 q4
                    exact ⟨_, _, q1, q3, eqAgg_run (d' + 1) f.type _ h1 dd (by omega) _ _ _ _ b1 g1 (by rw [List.length_take, List.length_drop]; omega) (by rw [List.length_take, List.length_drop]; omega) ⟨fun h => (by rw [ha] at h; cases h), fun _ => ⟨_, _, rfl, rfl, q2, q4⟩⟩⟩
                obtain ⟨p, p', q1, q2, q3⟩ := hpart
                simp only [Op.eqFields, hn', ne_eq, not_false_eq_true, if_true, Sem.run_bind, q1, q2, q3, Result.andThen_ok]
                cases b1 with
                | true =>
                  simp only [Bool.not_true, Bool.false_eq_true, if_false]
                  rw [List.length_append] at hle hle'
                  refine ih _ r b h3 ?_ (by omega) (by omega)
                  have := g2 rfl
                  rw [List.drop_drop, List.drop_drop] at this
                  rw [hsz]
                  exact this
                | false =>
                  rw [g3 rfl]
                  simp
              · cases hc
            · cases hc
      exact key fs 0 c b hf (by simpa using heq) (by omega) (by omega)

theorem lenNs_eq : ∀ l : List Nat, lenNs l = l.length
  | [] => rfl
  | a :: l => by show Nat.succ (lenNs l) = _; rw [lenNs_eq l]; rfl
theorem aggEq_core {op : BinOp} {xt yt : TypeId} {x y : Operand} {x' y' : Arg} {c : List Nat} (hop : o.op = .binOp op xt x y yt) (hx : compArg nt x = some x') (hy : compArg nt y = some y')
    (hrun : ∀ (m : M) (w : World) (xs ys : Array Value) (l l' : List V) (b : Bool), EqC P c l l' b → l.length = c.length → l'.length = c.length → VRs m l xs.toList → VRs m l' ys.toList → (Op.equalIn 10000 xt (.agg xs) (.agg ys)).run P w = .ok b w)
    (h : evOp (compAggL P op xt c x' y') id ph e H k = 1) : Good P nt o e H k := by
  have mem : x ∈ o.op.operands ∧ y ∈ o.op.operands := by simp [hop, Op.operands]
  have hnd : ∀ c, o.op ≠ .defer c := by simp [hop]
  unfold compAggL at h
  split at h
  · exact (no_ne h).elim
  rename_i hg
  have hg' : P.eqGuardType P.depth xt = false := by simpa using hg
  have key : ∀ neg : Bool, (op = if neg then .neq else .eql) → eAggEq c neg x' y' id ph e H k = 1 → Good P nt o e H k := by
    intro neg hneg h'
    unfold eAggEq at h'
    rw [getA_eq] at h'
    obtain ⟨l, hl, h1⟩ := vAgg_ok h'
    rw [getA_eq] at h1
    obtain ⟨l', hl', h2⟩ := vAgg_ok h1
    obtain ⟨h3, h4⟩ := ifB_no h2
    obtain ⟨h5, h6⟩ := ifB_no h4
    have e1 := beq_of h3
    have e2 := beq_of h5
    rw [lenL_eq, lenNs_eq] at e1 e2
    obtain ⟨b, h7, h8⟩ := eqCs_ok (P := P) h6
    have h9 : k (.bool (if neg then !b else b)) H = 1 := by
      rcases ifB_or h7 with ⟨rfl, h10⟩ | ⟨rfl, h10⟩
      · rcases ifB_or h10 with ⟨rfl, h11⟩ | ⟨rfl, h11⟩ <;> exact h11
      · cases neg <;> exact h10
    refine ⟨_, _, OpS.of_pure hnd fun m w ac ho => ?_, h9⟩
    have vx := ho x mem.1 x' hx
    have vy := ho y mem.2 y' hy
    rw [hl] at vx
    rw [hl'] at vy
    simp only [VR] at vx vy
    obtain ⟨xs, hcx, v1⟩ := vx
    obtain ⟨ys, hcy, v2⟩ := vy
    have hr := hrun m w xs ys l l' b h8 e1 e2 v1 v2
    refine ⟨.bool (if neg then !b else b), ?_, by simp only [VR]⟩
    have hgr := run_eqGuard_agg (P := P) w op xt x y xs ys hg'
    simp only [execOp, hop, hcx, hcy, Sem.run_bind, hgr, Result.andThen_ok]
    subst hneg
    cases neg with
    | true =>
      have := run_neq_struct (P := P) w xt xs ys
      rw [hr] at this
      simp only [if_true, this, Result.andThen_ok]
      rfl
    | false =>
      have := run_eql_struct (P := P) w xt xs ys
      rw [hr] at this
      simp only [Bool.false_eq_true, if_false, this, Result.andThen_ok]
      rfl
  split at h
  · exact key false (by simp) h
  · exact key true (by simp) h
  · exact (no_ne h).elim
theorem aggEq_good {op : BinOp} {xt yt : TypeId} {x y : Operand} {x' y' : Arg} {fs : Array Field} (hop : o.op = .binOp op xt x y yt) (hx : compArg nt x = some x') (hy : compArg nt y = some y') (hu : P.underlying xt = some (.struct fs))
    (h : evOp (compAggEq P op xt x' y') id ph e H k = 1) : Good P nt o e H k := by
  unfold compAggEq at h
  split at h
  rotate_left
  · exact (no_ne h).elim
  rename_i c hc
  exact aggEq_core hop hx hy (fun m w xs ys l l' b h8 e1 e2 v1 v2 => eqAgg_run (P := P) (m := m) (w := w) 4 xt c hc 10000 (by omega) (.agg xs) (.agg ys) l l' b h8 e1 e2 ⟨fun h => by simp [aggT, hu] at h, fun _ => ⟨xs, ys, rfl, rfl, v1, v2⟩⟩) h

/-- An array whose elements are one cell each, cell by cell. -/
theorem eqArr_run {xt el : TypeId} {n q : Nat} (hu : P.underlying xt = some (.array n el)) (hc : cmpT P 1 el = some [q]) (hs : szT P el = some 1) (d : Nat) (m : M) (w : World) (xs ys : Array Value) (l l' : List V) (b : Bool) (h : EqC P (List.replicate n q) l l' b)
    (hv : VRs m l xs.toList) (hv' : VRs m l' ys.toList) : (Op.equalIn (d + 2) xt (.agg xs) (.agg ys)).run P w = .ok b w := by
  rcases cmpT_leaf hc with ⟨ha, q', he, h0, h1, h2⟩ | ⟨_, _, _, hf⟩
  · cases he
    obtain ⟨i, hi, hsz⟩ := Option.map_eq_some_iff.1 hs
    have hcell : P.cellsOf el = 1 := by simp [Program.cellsOf, hi, hsz]
    rw [run_equalIn_array w (d + 1) xs ys hu hi, hcell, List.range_eq_range']
    have key : ∀ (r j : Nat) (b : Bool), EqC P (List.replicate r q) (l.drop j) (l'.drop j) b → (Op.eqItems (d + 1) el 1 xs ys (List.range' j r)).run P w = .ok b w := by
      intro r
      induction r with
      | zero =>
        intro j b hb
        have : b = true := hb
        subst this
        simp [Op.eqItems]
      | succ r ih =>
        intro j b hb
        obtain ⟨a, l1, a', l1', rr, e1, e2, hl, g1, g2⟩ := hb
        have ea : l[j]? = some a := by
          have := congrArg (fun z => z[0]?) e1
          simpa using this
        have ea' : l'[j]? = some a' := by
          have := congrArg (fun z => z[0]?) e2
          simpa using this
        have et : l.drop (j + 1) = l1 := by
          have := congrArg (List.drop 1) e1
          rw [List.drop_drop] at this
          simpa using this
        have et' : l'.drop (j + 1) = l1' := by
          have := congrArg (List.drop 1) e2
          rw [List.drop_drop] at this
          simpa using this
        obtain ⟨p, q1, q2⟩ := (run_part (P := P) (t := el) (off := j) hv (w := w)).2 a ha ea
        obtain ⟨p', q3, q4⟩ := (run_part (P := P) (t := el) (off := j) hv' (w := w)).2 a' ha ea'
        have q5 := hl m p p' q2 q4 d el w h0 h1 h2
        rw [List.range'_succ]
        simp only [Op.eqItems, Nat.mul_one, Sem.run_bind, q1, q3, q5, Result.andThen_ok]
        cases rr with
        | true =>
          simp only [Bool.not_true, Bool.false_eq_true, if_false]
          exact ih (j + 1) b (by rw [et, et']; exact g1 rfl)
        | false =>
          rw [g2 rfl]
          simp
    exact key n 0 b (by simpa using h)
  · exfalso
    revert hf
    generalize (P.fieldsOf el).toList = fs
    intro hf
    cases fs with
    | nil => simp [cmpFs] at hf
    | cons f fs =>
      simp only [cmpFs] at hf
      split at hf
      · cases hf
      · simp [cmpT] at hf

theorem arrEq_good {op : BinOp} {xt yt el : TypeId} {n : Nat} {x y : Operand} {x' y' : Arg} (hop : o.op = .binOp op xt x y yt) (hx : compArg nt x = some x') (hy : compArg nt y = some y') (hu : P.underlying xt = some (.array n el))
    (h : evOp (compArrEq P op xt n el x' y') id ph e H k = 1) : Good P nt o e H k := by
  unfold compArrEq at h
  split at h
  · rename_i q hc hs
    exact aggEq_core hop hx hy (fun m w xs ys l l' b h8 e1 e2 v1 v2 => eqArr_run hu hc hs 9998 m w xs ys l l' b h8 v1 v2) h
  · exact (no_ne h).elim
theorem s_binOp {op : BinOp} {xt yt : TypeId} {x y : Operand} (hop : o.op = .binOp op xt x y yt) (h : evOp (compOp P nt o) id ph e H k = 1) : Good P nt o e H k := by
  simp only [compOp, hop] at h
  have mem : x ∈ o.op.operands ∧ y ∈ o.op.operands := by simp [hop, Op.operands]
  split at h
  rotate_left
  · exact (no_ne h).elim
  rename_i x' y' hx hy
  have hnd : ∀ c, o.op ≠ .defer c := by simp [hop]
  have hex : ∀ (ac : Act) (w : World), (execOp ac.eval o).run P w = ((do eqGuard op xt x y (ac.eval x) (ac.eval y); binOp op xt (ac.eval x) (ac.eval y) : Sem Value).run P w).andThen fun v w' => .ok (.value v) w' := by
    intro ac w
    simp only [execOp, hop, Sem.run_bind, Sem.run_pure]
  unfold compBin at h
  split at h
  · rename_i kx hu
    split at h
    · -- comparison
      rename_i f hf
      have h' : eCmp (kOf kx) f x' y' id ph e H k = 1 := h
      unfold eCmp at h'
      rw [getA_eq] at h'
      obtain ⟨k1, a, ha, h1⟩ := vInt_ok h'
      rw [getA_eq] at h1
      obtain ⟨k2, b, hb, h2⟩ := vInt_ok h1
      obtain ⟨h3, h4⟩ := ifB_no h2
      obtain ⟨h5, h6⟩ := ifB_no h4
      have e3 := beq_of h3
      have e5 := beq_of h5
      subst e3 e5
      have h7 : k (.bool (evCF f a b)) H = 1 := by
        rcases ifB_or h6 with ⟨h8, h9⟩ | ⟨h8, h9⟩ <;> rw [h8] <;> exact h9
      refine ⟨_, _, OpS.of_pure hnd fun m w ac ho => ?_, h7⟩
      have vx := ho x mem.1 x' hx
      have vy := ho y mem.2 y' hy
      rw [ha] at vx
      rw [hb] at vy
      simp only [VR, kKind_kOf] at vx vy
      refine ⟨.bool (evCF f a b), ?_, by simp only [VR]⟩
      rw [hex, vx.1, vy.1, Sem.run_bind, run_eqGuard_int]
      simp only [Result.andThen_ok, cf_ok hf vx.2.1 vy.2.1]
    · split at h
      · rename_i f hf
        have key : ∀ ky : IntKind, ((isShift op = false ∧ ky = kx) ∨ (isShift op = true ∧ (ky.signed = true → ky.bits = 64))) → eBin (kOf kx) (kOf ky) f x' y' id ph e H k = 1 → Good P nt o e H k := by
          intro ky hky h'
          obtain ⟨a, b, ha, hb, h1⟩ := eBin_ok h'
          obtain ⟨r, h2, h3⟩ := bf_ok (P := P) (t := xt) (op := op) (k := kx) (ky := ky) hf hky h1
          refine ⟨_, _, OpS.of_pure hnd fun m w ac ho => ?_, h2⟩
          have vx := ho x mem.1 x' hx
          have vy := ho y mem.2 y' hy
          rw [ha] at vx
          rw [hb] at vy
          simp only [VR, kKind_kOf] at vx vy
          obtain ⟨h4, h5⟩ := h3 vx.2.1 vy.2.1
          refine ⟨.int kx (toI kx r), ?_, by simp only [VR, kKind_kOf]; exact ⟨trivial, h4, kOf_lt kx⟩⟩
          rw [hex, vx.1, vy.1, Sem.run_bind, run_eqGuard_int]
          simp only [Result.andThen_ok, h5 w]
        split at h
        · -- shifts
          rename_i hs
          split at h
          · rename_i ky hky
            split at h
            · rename_i hok
              exact key ky (Or.inr ⟨hs, fun hsg => by simpa [shOK, hsg] using hok⟩) h
            · exact (no_ne h).elim
          · exact (no_ne h).elim
        · rename_i hs
          exact key kx (Or.inl ⟨by simpa using hs, rfl⟩) h
      · exact (no_ne h).elim
  · -- texts
    have strs : ∀ (m : M) (ac : Act), OR m nt e ac o → ∀ l1 n1 l2 n2, pgetA x' e = .str l1 n1 → pgetA y' e = .str l2 n2 →
        ac.eval x = .string ⟨(sbytes l1 n1).toArray⟩ ∧ n1 < 256 ^ l1 ∧ ac.eval y = .string ⟨(sbytes l2 n2).toArray⟩ ∧ n2 < 256 ^ l2 := by
      intro m ac ho l1 n1 l2 n2 e1 e2
      have vx := ho x mem.1 x' hx
      have vy := ho y mem.2 y' hy
      rw [e1] at vx
      rw [e2] at vy
      simp only [VR] at vx vy
      exact ⟨vx.1, vx.2, vy.1, vy.2⟩
    have cmp : ∀ neg : Bool, (op = if neg then .neq else .eql) → eScmp neg x' y' id ph e H k = 1 → Good P nt o e H k := by
      intro neg hneg h'
      unfold eScmp at h'
      rw [getA_eq] at h'
      obtain ⟨l1, n1, h1, h2⟩ := vStr_ok h'
      rw [getA_eq] at h2
      obtain ⟨l2, n2, h3, h4⟩ := vStr_ok h2
      have h5 : k (.bool (if neg then !(decide (l1 = l2) && Nat.beq n1 n2) else (decide (l1 = l2) && Nat.beq n1 n2))) H = 1 := by
        rcases ifB_or h4 with ⟨h5, h6⟩ | ⟨h5, h6⟩
        · have := beq_of h5
          subst this
          rcases ifB_or h6 with ⟨h7, h8⟩ | ⟨h7, h8⟩ <;> rw [h7] <;> cases neg <;> simp <;> exact h8
        · rw [beq_dec] at h5
          rw [h5]
          cases neg <;> simp <;> exact h6
      refine ⟨_, _, OpS.of_pure hnd fun m w ac ho => ?_, h5⟩
      obtain ⟨v1, v2, v3, v4⟩ := strs m ac ho l1 n1 l2 n2 h1 h3
      refine ⟨.bool (if neg then !(decide (l1 = l2) && Nat.beq n1 n2) else (decide (l1 = l2) && Nat.beq n1 n2)), ?_, by simp only [VR]⟩
      rw [hex, v1, v3, Sem.run_bind, run_eqGuard_str]
      have hq : ((⟨(sbytes l1 n1).toArray⟩ : ByteArray).toList == (⟨(sbytes l2 n2).toArray⟩ : ByteArray).toList) = (decide (l1 = l2) && Nat.beq n1 n2) := by
        by_cases hl : l1 = l2
        · subst hl
          rw [str_eq v2 v4]; simp
        · rw [decide_eq_false hl, Bool.false_and]
          simp only [beq_eq_false_iff_ne, ne_eq, ByteArray.toList_eq]
          intro he
          have := congrArg List.length he
          simp [sbytes_length] at this
          exact hl this
      subst hneg
      cases neg
      · simp only [Result.andThen_ok, Bool.false_eq_true, if_false, binOp, Op.stringOp, hq, Sem.run_pure]
      · simp only [Result.andThen_ok, if_true, binOp, Op.stringOp, hq, Sem.run_pure]
    split at h
    · -- a sum
      have h' : eSadd x' y' id ph e H k = 1 := h
      unfold eSadd at h'
      rw [getA_eq] at h'
      obtain ⟨l1, n1, h1, h2⟩ := vStr_ok h'
      rw [getA_eq] at h2
      obtain ⟨l2, n2, h3, h4⟩ := vStr_ok h2
      rw [forceN_eq] at h4
      obtain ⟨h5, h6⟩ := ifB_no h4
      rw [forceN_eq] at h6
      refine ⟨_, _, OpS.of_pure hnd fun m w ac ho => ?_, h6⟩
      obtain ⟨v1, v2, v3, v4⟩ := strs m ac ho l1 n1 l2 n2 h1 h3
      have hlt : l1 + l2 < 4611686018427387904 := blt_of h5
      have e1 : Nat.add n1 (Nat.shiftLeft n2 (Nat.mul 8 l1)) = n1 + 256 ^ l1 * n2 := by
        show n1 + n2 <<< (8 * l1) = _
        rw [Nat.shiftLeft_eq, Nat.pow_mul, Nat.mul_comm]
      have hbig : ¬ ((((l1 + l2 : Nat) : Int)) > IntKind.i64.max) := by simp [IntKind.max, IntKind.signed, IntKind.bits]; omega
      refine ⟨.string ⟨(sbytes (l1 + l2) (n1 + 256 ^ l1 * n2)).toArray⟩, ?_, ?_⟩
      · rw [hex, v1, v3, Sem.run_bind, run_eqGuard_str]
        have hs1 : (⟨(sbytes l1 n1).toArray⟩ : ByteArray).size = l1 := by simp [ByteArray.size, sbytes_length]
        have hs2 : (⟨(sbytes l2 n2).toArray⟩ : ByteArray).size = l2 := by simp [ByteArray.size, sbytes_length]
        have happ : (⟨(sbytes l1 n1).toArray⟩ : ByteArray) ++ (⟨(sbytes l2 n2).toArray⟩ : ByteArray) = ⟨(sbytes (l1 + l2) (n1 + 256 ^ l1 * n2)).toArray⟩ := by
          apply Go.WideShapes.bytes_inj
          rw [sbytes_append _ _ _ _ v2]
          simp [ByteArray.data_append]
        simp only [Result.andThen_ok, binOp, Op.stringOp, hs1, hs2, if_neg hbig, happ, Sem.run_pure]
      · rw [e1]
        simp only [VR]
        refine ⟨rfl, ?_⟩
        show n1 + 256 ^ l1 * n2 < 256 ^ (l1 + l2)
        rw [Nat.pow_add]
        calc n1 + 256 ^ l1 * n2 < 256 ^ l1 + 256 ^ l1 * n2 := by omega
          _ = 256 ^ l1 * (n2 + 1) := by rw [Nat.mul_add, Nat.mul_one, Nat.add_comm]
          _ ≤ 256 ^ l1 * 256 ^ l2 := Nat.mul_le_mul_left _ v4
    · exact cmp false (by simp) h
    · exact cmp true (by simp) h
    · exact (no_ne h).elim
  · rename_i hu; exact eqv_good hop hx hy (Or.inl ⟨rfl, hu⟩) (fun e5 => by cases e5) h
  · rename_i hu; exact eqv_good hop hx hy (Or.inr (Or.inl ⟨rfl, _, hu⟩)) (fun e5 => by cases e5) h
  · rename_i hu; exact eqv_good hop hx hy (Or.inr (Or.inr (Or.inl ⟨rfl, _, hu⟩))) (fun e5 => by cases e5) h
  · rename_i hu; exact eqv_good hop hx hy (Or.inr (Or.inr (Or.inr (Or.inl ⟨rfl, _, _, hu⟩)))) (fun e5 => by cases e5) h
  · rename_i hu; exact eqv_good hop hx hy (Or.inr (Or.inr (Or.inr (Or.inr (Or.inl ⟨rfl, _, _, _, hu⟩))))) (fun e5 => by cases e5) h
  · rename_i hu
    split at h
    · rename_i hi
      exact eqv_good hop hx hy (Or.inr (Or.inr (Or.inr (Or.inr (Or.inr ⟨rfl, _, hu⟩))))) (fun _ => by simpa using hi) h
    · exact (no_ne h).elim
  · rename_i fs hu; exact aggEq_good hop hx hy hu h
  · rename_i n el hu; exact arrEq_good hop hx hy hu h
  · exact (no_ne h).elim
  · exact (no_ne h).elim
end
end Go.Ev
