/- Which operations go before which; what the temporaries hold when only some have been. -/
import Derived.Test.YtaodjhgfhdncgaaGreatDoorEv24
import Derived.OrdersIn
set_option linter.unusedSectionVars false
set_option linter.unusedVariables false
set_option linter.unusedSimpArgs false
namespace Go.Ev
open Go.RowKit

section
variable {ops : Array Oper}

def befStep (acc : Array Nat) (o : Oper) : Array Nat := acc.push (o.after.foldl (fun s e => if Region.binds .any e then s ||| 2 ^ e.on ||| acc.getD e.on 0 else s) 0)

theorem edge_fold (acc : Array Nat) (i : Nat) : ∀ (l : List Edge) (s : Nat), (l.foldl (fun s e => if Region.binds .any e then s ||| 2 ^ e.on ||| acc.getD e.on 0 else s) s).testBit i = true → s.testBit i = true ∨ ∃ e ∈ l, Region.binds .any e = true ∧ (i = e.on ∨ (acc.getD e.on 0).testBit i = true)
  | [], s, h => Or.inl h
  | e :: l, s, h => by
    rw [List.foldl_cons] at h
    rcases edge_fold acc i l _ h with h | ⟨e', h1, h2⟩
    · split at h
      · rename_i hb
        rw [Nat.testBit_or, Nat.testBit_or, Bool.or_eq_true, Bool.or_eq_true] at h
        rcases h with (h | h) | h
        · exact Or.inl h
        · rw [Nat.testBit_two_pow] at h
          exact Or.inr ⟨e, List.mem_cons_self, hb, Or.inl (by simp at h; exact h.symm)⟩
        · exact Or.inr ⟨e, List.mem_cons_self, hb, Or.inr h⟩
      · exact Or.inl h
    · exact Or.inr ⟨e', List.mem_cons_of_mem _ h1, h2⟩

theorem before_list : ∀ (l : List Oper) (acc : Array Nat), (l.foldl befStep acc).size = acc.size + l.length ∧ ∀ j, j < acc.size → (l.foldl befStep acc)[j]? = acc[j]?
  | [], acc => ⟨rfl, fun _ _ => rfl⟩
  | o :: l, acc => by
    obtain ⟨h1, h2⟩ := before_list l (befStep acc o)
    have hs : (befStep acc o).size = acc.size + 1 := by simp [befStep]
    rw [List.foldl_cons]
    refine ⟨by rw [h1, hs]; simp; omega, fun j hj => ?_⟩
    rw [h2 j (by omega)]
    unfold befStep
    rw [Array.getElem?_push, if_neg (by omega)]

theorem before_spec_list : ∀ (l : List Oper) (acc : Array Nat) (j i : Nat) (o : Oper), l[j]? = some o → ((l.foldl befStep acc).getD (acc.size + j) 0).testBit i = true →
    ∃ e ∈ o.after.toList, Region.binds .any e = true ∧ (i = e.on ∨ (e.on < acc.size + j ∧ ((l.foldl befStep acc).getD e.on 0).testBit i = true))
  | [], acc, j, i, o, hj, _ => by simp at hj
  | o' :: l, acc, 0, i, o, hj, h => by
    simp only [List.getElem?_cons_zero, Option.some.injEq] at hj
    subst hj
    rw [List.foldl_cons] at h ⊢
    obtain ⟨h1, h2⟩ := before_list l (befStep acc o')
    have hs : (befStep acc o').size = acc.size + 1 := by simp [befStep]
    have hg : (l.foldl befStep (befStep acc o'))[acc.size]? = (befStep acc o')[acc.size]? := h2 _ (by omega)
    have hv : (befStep acc o')[acc.size]? = some (o'.after.foldl (fun s e => if Region.binds .any e then s ||| 2 ^ e.on ||| acc.getD e.on 0 else s) 0) := by simp [befStep]
    rw [Nat.add_zero, Array.getD_eq_getD_getElem?, hg, hv, Option.getD_some, ← Array.foldl_toList] at h
    rcases edge_fold acc i _ _ h with h | ⟨e, h3, h4, h5⟩
    · simp at h
    · refine ⟨e, h3, h4, h5.imp id fun h6 => ?_⟩
      have hlt : e.on < acc.size := by
        rcases Nat.lt_or_ge e.on acc.size with h | h
        · exact h
        · rw [Array.getD_eq_getD_getElem?, Array.getElem?_eq_none h] at h6; simp at h6
      refine ⟨by omega, ?_⟩
      rw [Array.getD_eq_getD_getElem?, h2 _ (by omega)]
      unfold befStep
      rw [Array.getElem?_push, if_neg (by omega), ← Array.getD_eq_getD_getElem?]
      exact h6
  | o' :: l, acc, j + 1, i, o, hj, h => by
    rw [List.foldl_cons] at h ⊢
    have hs : (befStep acc o').size = acc.size + 1 := by simp [befStep]
    have := before_spec_list l (befStep acc o') j i o (by simpa using hj)
    rw [hs, show acc.size + 1 + j = acc.size + (j + 1) by omega] at this
    exact this h

theorem before_eq : Region.before ops = ops.toList.foldl befStep #[] := by
  unfold Region.before
  rw [← Array.foldl_toList]
  rfl
theorem before_spec {j i : Nat} (h : ((Region.before ops).getD j 0).testBit i = true) : ∃ o, ops[j]? = some o ∧ ∃ e ∈ o.after.toList, Region.binds .any e = true ∧ (i = e.on ∨ (e.on < j ∧ ((Region.before ops).getD e.on 0).testBit i = true)) := by
  rw [before_eq] at h ⊢
  obtain ⟨h1, _⟩ := before_list ops.toList #[]
  have hj : j < ops.toList.length := by
    rcases Nat.lt_or_ge j (ops.toList.foldl befStep #[]).size with h2 | h2
    · rw [h1] at h2; simpa using h2
    · rw [Array.getD_eq_getD_getElem?, Array.getElem?_eq_none h2] at h; simp at h
  have ho : ops.toList[j]? = some ops.toList[j] := List.getElem?_eq_getElem hj
  refine ⟨_, by rw [← Array.getElem?_toList]; exact ho, ?_⟩
  have := before_spec_list ops.toList #[] j i _ ho
  simp only [List.size_toArray, List.length_nil, Nat.zero_add] at this
  exact this h

def Edges (ops : Array Oper) : Prop := ∀ j o, ops[j]? = some o → ∀ e ∈ o.after.toList, Region.binds .any e = true → e.on < j
theorem edges_of (h : edgesOK ops = true) : Edges ops := fun j o hj e he hb => by
  unfold edgesOK at h
  rw [List.all_eq_true] at h
  have h1 := h (o, j) (List.mem_zipIdx_iff_getElem?.2 (by simpa using hj))
  rw [Array.all_eq_true_iff_forall_mem] at h1
  have h2 := h1 e (by simpa using he)
  simpa [hb] using h2

theorem before_lt (hE : Edges ops) : ∀ (j i : Nat), ((Region.before ops).getD j 0).testBit i = true → i < j := by
  intro j
  induction j using Nat.strongRecOn with
  | _ j ih =>
    intro i h
    obtain ⟨o, h1, e, h2, h3, h4⟩ := before_spec h
    have h5 := hE j o h1 e h2 h3
    rcases h4 with rfl | ⟨_, h6⟩
    · exact h5
    · have := ih e.on h5 i h6
      omega

/-- The operations that have been. -/
def Been (listed : Array Bool) (i : Nat) : Prop := listed.getD i false = true
def Closed (ops : Array Oper) (listed : Array Bool) : Prop := ∀ j, Been listed j → ∀ o, ops[j]? = some o → ∀ e ∈ o.after.toList, Region.binds .any e = true → Been listed e.on

theorem before_been {listed : Array Bool} (hE : Edges ops) (hC : Closed ops listed) : ∀ (j i : Nat), (Been listed j ∨ ∀ o, ops[j]? = some o → ∀ e ∈ o.after.toList, Region.binds .any e = true → Been listed e.on) → ((Region.before ops).getD j 0).testBit i = true → Been listed i := by
  intro j
  induction j using Nat.strongRecOn with
  | _ j ih =>
    intro i hj h
    obtain ⟨o, h1, e, h2, h3, h4⟩ := before_spec h
    have h5 : Been listed e.on := hj.elim (fun hb => hC j hb o h1 e h2 h3) fun hr => hr o h1 e h2 h3
    rcases h4 with rfl | ⟨h6, h7⟩
    · exact h5
    · exact ih e.on h6 i (Or.inl h5) h7

theorem been_set {listed : Array Bool} {i : Nat} (hi : i < listed.size) {j : Nat} : Been (listed.setIfInBounds i true) j ↔ j = i ∨ Been listed j := by
  unfold Been
  simp only [Array.getD_eq_getD_getElem?]
  by_cases h : i = j
  · subst h
    rw [Array.getElem?_setIfInBounds_self_of_lt hi]
    simp
  · rw [Array.getElem?_setIfInBounds_ne h]
    simp [Ne.symm h]

theorem apart_of {bf : Array Nat} (h : apartOK ops bf = true) {i j : Nat} {oi oj : Oper} (hi : ops[i]? = some oi) (hj : ops[j]? = some oj) (hne : i ≠ j) {d : Tmp} (hd : oi.dst = some d) (hm : d ∈ namesOf ops oj) : if i < j then (bf.getD j 0).testBit i = true else (bf.getD i 0).testBit j = true := by
  unfold apartOK at h
  rw [List.all_eq_true] at h
  have h1 := h (oi, i) (List.mem_zipIdx_iff_getElem?.2 (by simpa using hi))
  rw [List.all_eq_true] at h1
  have h2 := h1 (oj, j) (List.mem_zipIdx_iff_getElem?.2 (by simpa using hj))
  simp only [hd, Bool.or_eq_true, beq_iff_eq, Bool.not_eq_true', hne, false_or] at h2
  rcases h2 with h2 | h2
  · have : (namesOf ops oj).contains d = true := by simpa using hm
    rw [this] at h2; cases h2
  · split
    · rename_i hlt; simpa [hlt] using h2
    · rename_i hlt; simpa [hlt] using h2
end

/-- The environment when the operations of S have been. -/
def envS (D : Nat → Option Slot) (Vv : Nat → V) (e0 : Env) (S : Nat → Bool) : Nat → Env
  | 0 => e0
  | k + 1 => if S k then psetD (D k) (Vv k) (envS D Vv e0 S k) else envS D Vv e0 S k

theorem pget_psetD {s : Slot} {d : Option Slot} {v : V} {e : Env} : pget s (psetD d v e) = if d = some s then v else pget s e := by
  cases d with
  | none => simp [psetD]
  | some d =>
    show pget s (pset d v e) = _
    rw [pget_pset]
    by_cases h : s = d
    · subst h; simp
    · rw [if_neg h, if_neg (by simp; exact fun e => h e.symm)]

theorem envS_at {D : Nat → Option Slot} {Vv : Nat → V} {E : Nat → Env} {S : Nat → Bool} {n i : Nat} (hi : i ≤ n) (hE : ∀ k, k < n → E (k + 1) = psetD (D k) (Vv k) (E k)) {s : Slot} (h : ∀ k, k < n → D k = some s → (S k = true ↔ k < i)) : pget s (envS D Vv (E 0) S n) = pget s (E i) := by
  have h1 : ∀ m, m ≤ i → pget s (envS D Vv (E 0) S m) = pget s (E m) := by
    intro m
    induction m with
    | zero => intro _; rfl
    | succ m ih =>
      intro hm
      rw [hE m (by omega), pget_psetD]
      simp only [envS]
      by_cases hd : D m = some s
      · rw [if_pos hd, if_pos ((h m (by omega) hd).2 (by omega)), pget_psetD, if_pos hd]
      · rw [if_neg hd]
        split
        · rw [pget_psetD, if_neg hd]; exact ih (by omega)
        · exact ih (by omega)
  have h2 : ∀ m, i ≤ m → m ≤ n → pget s (envS D Vv (E 0) S m) = pget s (E i) := by
    intro m
    induction m with
    | zero => intro h3 _; have : i = 0 := by omega
              subst this; rfl
    | succ m ih =>
      intro h3 h4
      by_cases h5 : i = m + 1
      · subst h5; exact h1 _ (Nat.le_refl _)
      · simp only [envS]
        split
        · rename_i hs
          rw [pget_psetD]
          by_cases hd : D m = some s
          · have := (h m (by omega) hd).1 hs; omega
          · rw [if_neg hd]; exact ih (by omega) (by omega)
        · exact ih (by omega) (by omega)
  exact h2 n hi (Nat.le_refl _)

theorem envS_put {D : Nat → Option Slot} {Vv : Nat → V} {e0 : Env} {S S' : Nat → Bool} {n i : Nat} (hi : i < n) (h0 : S i = false) (h1 : ∀ k, S' k = true ↔ k = i ∨ S k = true) (h : ∀ k, k < n → i < k → S k = true → ∀ s, D k = some s → D i ≠ some s) (s : Slot) :
    pget s (envS D Vv e0 S' n) = pget s (psetD (D i) (Vv i) (envS D Vv e0 S n)) := by
  have hS : ∀ k, k ≠ i → S' k = S k := fun k hk => by
    have := h1 k
    cases h2 : S k <;> cases h3 : S' k <;> simp [h2, h3, hk] at this ⊢
  have g1 : ∀ m, m ≤ i → envS D Vv e0 S' m = envS D Vv e0 S m := by
    intro m
    induction m with
    | zero => intro _; rfl
    | succ m ih => intro hm; simp only [envS, hS m (by omega), ih (by omega)]
  have g2 : ∀ m, i < m → m ≤ n → pget s (envS D Vv e0 S' m) = pget s (psetD (D i) (Vv i) (envS D Vv e0 S m)) := by
    intro m
    induction m with
    | zero => intro h _; omega
    | succ m ih =>
      intro h3 h4
      by_cases h5 : m = i
      · subst h5
        have hs : S' m = true := (h1 m).2 (Or.inl rfl)
        simp only [envS, hs, if_true, h0, Bool.false_eq_true, if_false, g1 m (Nat.le_refl _)]
      · have ih := ih (by omega) (by omega)
        simp only [envS, hS m h5]
        split
        · rename_i hs
          rw [pget_psetD, ih, pget_psetD, pget_psetD, pget_psetD]
          by_cases hd : D m = some s
          · rw [if_pos hd, if_neg (h m (by omega) (by omega) hs s hd), if_pos hd]
          · rw [if_neg hd, if_neg hd]
        · exact ih
  exact g2 n hi (Nat.le_refl _)
theorem envS_none {D : Nat → Option Slot} {Vv : Nat → V} {e0 : Env} {S : Nat → Bool} (h : ∀ k, S k = false) : ∀ n, envS D Vv e0 S n = e0
  | 0 => rfl
  | n + 1 => by simp only [envS, h, Bool.false_eq_true, if_false]; exact envS_none h n
end Go.Ev
