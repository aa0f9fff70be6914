/- A region that draws its order. -/
import Derived.Test.YtaodjhgfhdncgaaGreatDoorEv26
set_option linter.unusedSectionVars false
set_option linter.unusedVariables false
set_option linter.unusedSimpArgs false
namespace Go.Ev
open Go.RowKit

/-- What an operation reaches, it reaches. -/
theorem wpIn_some {rd : Option Nat} {P : Program} {o : Oper} {a : Act} {w : World} {K : Act → World → Prop} (h : o.wpIn (WF rd) 0 P a w K (fun _ _ _ => False)) : ∃ a' w', K a' w' := by
  have h := h.2
  have hroom : ∀ k, (WF rd).room k := fun k => by simp [Fence.room]
  generalize (o.semAt (WF rd).round a.eval).run P w = r at *
  cases r with
  | ok x w' =>
    cases x <;> simp only [Oper.uponIn] at h
    case value v => exact ⟨_, _, h⟩
    case skip => exact ⟨_, _, h⟩
    case defer d => exact ⟨_, _, h⟩
    case enter f args =>
      obtain ⟨e, w'', fr, he, _⟩ := h.2.2 [] (hroom _)
      cases e with
      | returned u => exact ⟨_, _, he⟩
      | panicked c => exact he.elim
      | outgrown => obtain ⟨_, _, h⟩ := he; exact h.elim
    case row row args =>
      obtain ⟨v, w'', he, _⟩ := h.2 default [] (hroom _)
      exact ⟨_, _, he⟩
    case round l f tmps assign body =>
      obtain ⟨e, w'', he, _⟩ := h.2.2 default [] (hroom _)
      cases e with
      | returned u => exact ⟨_, _, he⟩
      | panicked c => exact he.elim
      | outgrown => obtain ⟨_, _, h⟩ := he; exact h.elim
  | halt x w' =>
    cases x <;> simp only [Oper.uponIn] at h

theorem M.le_trans {m1 m2 m3 : M} (h : m1.le m2) (k : m2.le m3) : m1.le m3 := ⟨fun b c x => k.1 _ _ (h.1 _ _ x), fun c z x => k.2 _ _ (h.2 _ _ x)⟩

theorem dstOf_eq {nt : Nat} {x : Option Tmp} {d : Option Slot} (h : dstOf nt x = some d) : d = x.map slotOf ∧ ∀ t, x = some t → t < nt := by
  unfold dstOf at h
  split at h
  · cases h; exact ⟨rfl, fun _ h => by cases h⟩
  · split at h
    · rename_i hlt
      cases h
      exact ⟨rfl, fun t ht => by cases ht; exact hlt⟩
    · cases h

theorem TR.congr {m : M} {nt : Nat} {e e' : Env} {tmps : Array Value} (h : TR m nt e tmps) (he : ∀ s, pget s e' = pget s e) : TR m nt e' tmps :=
  ⟨h.size, h.le, fun t v hv => by rw [he]; exact h.get t v hv, fun t h1 h2 => by rw [he]; exact h.rest t h1 h2⟩

/-- The operands, where the environment is right at their slots. -/
theorem or_at {m : M} {nt : Nat} {e e' : Env} {a : Act} {o : Oper} {ops : Array Oper} (h : TR m nt e a.tmps) (he : ∀ t, t ∈ o.looksAt ops → t < nt → pget (slotOf t) e = pget (slotOf t) e') : OR m nt e' a o := fun x hx ar har => by
  have h1 := compArg_ok h har
  have h2 : pgetA ar e = pgetA ar e' := by
    unfold compArg at har
    split at har
    · rename_i t
      split at har
      · rename_i hlt
        cases har
        exact he t (List.mem_append_left _ (List.mem_filterMap.2 ⟨.tmp t, by simpa using hx, rfl⟩)) hlt
      · cases har
    · simp only [Option.map_eq_some_iff] at har
      obtain ⟨u, _, rfl⟩ := har
      rfl
    · cases har; rfl
    · cases har
  rw [← h2]
  exact h1
theorem gt_at {m : M} {nt : Nat} {e e' : Env} {tmps : Array Value} {o : Oper} {ops : Array Oper} (h : TR m nt e tmps) (he : ∀ t, t ∈ o.looksAt ops → t < nt → pget (slotOf t) e = pget (slotOf t) e') : GT nt m e' ops o tmps := fun j b o' d h1 h2 h3 hlt => by
  obtain ⟨v, h4, h5⟩ := h.gt ops o j b o' d h1 h2 h3 hlt
  refine ⟨v, h4, ?_⟩
  rw [← he d ?_ hlt]
  · exact h5
  · unfold Oper.looksAt
    refine List.mem_append_right _ ?_
    rw [h1]
    simp [h2, h3]

theorem ext_heap {rho : Nat → Option Nat} {H : Heap} {w w' : World} (hd : ∀ b c, rho b = some c → b < H.n) (h : w'.heap = w.heap) : Ext rho H w rho H w' :=
  ⟨Nat.le_refl _, Nat.le_refl _, by rw [h]; exact Nat.le_refl _, fun _ _ _ => ⟨rfl, rfl⟩, fun _ _ _ h => h, fun _ _ h _ => h, fun _ _ h => h, fun b c hb h => absurd (hd b c h) (by omega), fun _ _ _ => by rw [h], fun b hb => ⟨hb, rfl, fun _ _ => by rw [h]⟩, fun c cs e fr hc => ⟨cs, e, fr, by rw [h]; exact hc, rfl⟩⟩

/-! ### heaps of one's own making -/
theorem ht_put (x : Blk) : ∀ (k : Nat) (t : HT), ∃ t' : HT, t'.get k = x ∧ ∀ j, j ≠ k → t'.get j = t.get j := by
  intro k
  induction k using Nat.strongRecOn with
  | _ k ih =>
    intro t
    cases k with
    | zero =>
      cases t with
      | e => exact ⟨.n x .e .e, rfl, fun j hj => by
          cases j with
          | zero => exact absurd rfl hj
          | succ j => rw [HT.get_succ, HT.get_e, HT.get_e]; simp [HT.get_e]⟩
      | n u l r => exact ⟨.n x l r, rfl, fun j hj => by
          cases j with
          | zero => exact absurd rfl hj
          | succ j => rw [HT.get_succ, HT.get_succ]⟩
    | succ k =>
      have go : ∀ (u : Blk) (l r : HT), (∀ j, t.get j = HT.get (.n u l r) j) → ∃ t' : HT, t'.get (k + 1) = x ∧ ∀ j, j ≠ k + 1 → t'.get j = t.get j := fun u l r ht => by
        by_cases hk : k % 2 = 0
        · obtain ⟨l', h1, h2⟩ := ih (k / 2) (by omega) l
          refine ⟨.n u l' r, by rw [HT.get_succ, if_pos hk]; exact h1, fun j hj => ?_⟩
          rw [ht]
          cases j with
          | zero => rfl
          | succ j =>
            rw [HT.get_succ, HT.get_succ]
            split
            · exact h2 _ (by omega)
            · rfl
        · obtain ⟨r', h1, h2⟩ := ih (k / 2) (by omega) r
          refine ⟨.n u l r', by rw [HT.get_succ, if_neg hk]; exact h1, fun j hj => ?_⟩
          rw [ht]
          cases j with
          | zero => rfl
          | succ j =>
            rw [HT.get_succ, HT.get_succ]
            split
            · rfl
            · exact h2 _ (by omega)
      have he : ∀ j, HT.get .e j = HT.get (.n .dead .e .e) j := fun j => by
        cases j with
        | zero => rfl
        | succ j => rw [HT.get_succ, HT.get_e, HT.get_e]; simp
      cases t with
      | e => exact go .dead .e .e he
      | n u l r => exact go u l r fun _ => rfl
theorem ht_of (f : Nat → Blk) : ∀ N, ∃ t : HT, ∀ b, t.get b = if b < N then f b else .dead
  | 0 => ⟨.e, fun b => by simp [HT.get_e]⟩
  | N + 1 => by
    obtain ⟨t, h⟩ := ht_of f N
    obtain ⟨t', h1, h2⟩ := ht_put (f N) N t
    refine ⟨t', fun b => ?_⟩
    by_cases hb : b = N
    · subst hb; rw [h1, if_pos (by omega)]
    · rw [h2 b hb, h b]
      by_cases hl : b < N
      · rw [if_pos hl, if_pos (by omega)]
      · rw [if_neg hl, if_neg (by omega)]
/-- A heap with these blocks. -/
theorem heap_of (f : Nat → Blk) (N wlo : Nat) : ∃ H : Heap, H.n = N ∧ H.wlo = wlo ∧ (∀ b, b < N → H.get b = f b) ∧ ∀ b, N ≤ b → H.get b = .dead := by
  obtain ⟨t, h⟩ := ht_of f N
  exact ⟨.mk N wlo t, rfl, rfl, fun b hb => (h b).trans (if_pos hb), fun b hb => (h b).trans (if_neg (by omega))⟩

/-- What was done, seen in another heap and world. -/
theorem Ext.re {r0 rho rho' : Nat → Option Nat} {H0 H H' : Heap} {w00 w w' : World} (h : Ext r0 H0 w00 rho H w) (hd0 : ∀ b c, r0 b = some c → b < H0.n) (hc0 : ∀ b c, r0 b = some c → c < w00.heap.size) (ho : ∀ b, H0.n ≤ b → H0.get b = .dead)
    (hn : H0.n ≤ H'.n) (hw : H'.wlo = H.wlo) (hg : ∀ b, b < H0.n → H'.get b = H.get b) (hr : ∀ b, b < H0.n → rho' b = rho b) (hnew : ∀ b c, H0.n ≤ b → rho' b = some c → rho b = some c ∨ w00.heap.size ≤ c)
    (hf : ∀ c, c < w00.heap.size → w'.heap[c]? = w.heap[c]?) (hs : w00.heap.size ≤ w'.heap.size) : Ext r0 H0 w00 rho' H' w' where
  n := hn
  wlo := by rw [hw]; exact h.wlo
  size := hs
  keep b hb hlo := ⟨(hg b hb).trans (h.keep b hb (by omega)).1, (hr b hb).trans (h.keep b hb (by omega)).2⟩
  old b c hb hx := h.old b c hb (by rw [← hr b hb]; exact hx)
  live b c hx ha := by
    have hb := hd0 b c hx
    rw [hr b hb]
    exact h.live b c hx (by rw [← hg b hb]; exact ha)
  nores b hb ha := h.nores b hb (by rw [← hg b hb]; exact ha)
  new b c hb hx := by
    rcases hnew b c hb hx with h' | h'
    · rcases h.new b c hb h' with h1 | ⟨b0, h1, h2⟩
      · exact Or.inl h1
      · exact Or.inr ⟨b0, h1, by omega⟩
    · exact Or.inl h'
  fr c hc hx := (hf c hc).trans (h.fr c hc fun b hb => by have := hx b hb; omega)
  marks b hb := by
    have hlt : b < H0.n := by
      rcases Nat.lt_or_ge b H0.n with h' | h'
      · exact h'
      · rw [ho b h'] at hb; cases hb
    obtain ⟨h1, h2, h3⟩ := h.marks b hb
    exact ⟨(hg b hlt).trans h1, (hr b hlt).trans h2, fun c hc => (hf c (hc0 b c hc)).trans (h3 c hc)⟩
  rows c cs e fr hc := by
    obtain ⟨cs', e', fr', h1, h2⟩ := h.rows c cs e fr hc
    exact ⟨cs', e', fr', (hf c (Array.getElem?_eq_some_iff.1 hc).1).trans h1, h2⟩

section
variable {P : Program} {nt : Nat} {ops : Array Oper} {iso pur : Nat → Bool} {E : Nat → Env} {Hh : Nat → Heap} {Vv : Nat → V} {B : Nat → Option Nat}

/-- It must stand where the text has it. -/
def Hard (iso pur : Nat → Bool) (i : Nat) : Prop := iso i = true ∧ pur i = false

/-- What is known of the heaps of the text's order. -/
structure Heaps (n : Nat) (iso pur : Nat → Bool) (Hh : Nat → Heap) : Prop where
  wn : ∀ i, i ≤ n → (Hh i).wlo ≤ (Hh i).n
  out : ∀ i, i ≤ n → ∀ b, (Hh i).n ≤ b → (Hh i).get b = .dead
  le : ∀ i, i < n → (Hh i).n ≤ (Hh (i + 1)).n ∧ (Hh (i + 1)).wlo ≤ (Hh i).wlo
  mild : ∀ i, i < n → ¬ Hard iso pur i → Part (Hh i) (Hh (i + 1)) ∧ (Hh (i + 1)).wlo = (Hh i).wlo

/-- The operations in the text's order, in a world. -/
theorem text_run (hst : ∀ j o, ops[j]? = some o → StepOK P nt ops (iso j) (pur j) (B j) o (E j) (Hh j) (Vv j) (E (j + 1)) (Hh (j + 1))) {base : Nat} {w0 : World} {rho : Nat → Option Nat} {w : World} {a : Act} (hp : PR P base w0 rho (Hh 0) w) (ht : TR (mu rho (Hh 0) w) nt (E 0) a.tmps) :
    ∀ i, i ≤ ops.size → (∃ (rho' : Nat → Option Nat) (w' : World) (a' : Act), PR P base w0 rho' (Hh i) w' ∧ TR (mu rho' (Hh i) w') nt (E i) a'.tmps) ∧ ∀ j, j < i → (Hh j).n ≤ (Hh (j + 1)).n ∧ (Hh (j + 1)).wlo ≤ (Hh j).wlo ∧ (¬ Hard iso pur j → Part (Hh j) (Hh (j + 1)) ∧ (Hh (j + 1)).wlo = (Hh j).wlo) := by
  intro i
  induction i with
  | zero => exact fun _ => ⟨⟨rho, w, a, hp, ht⟩, fun j hj => by omega⟩
  | succ i ih =>
    intro hi
    obtain ⟨⟨rho1, w1, a1, p1, t1⟩, h1⟩ := ih (by omega)
    have hlt : i < ops.size := by omega
    have ho : ops[i]? = some ops[i] := Array.getElem?_eq_getElem hlt
    obtain ⟨d, hd, he, hs⟩ := hst i _ ho
    have key : (∃ (rho' : Nat → Option Nat) (w' : World) (a' : Act), PR P base w0 rho' (Hh (i + 1)) w' ∧ TR (mu rho' (Hh (i + 1)) w') nt (E (i + 1)) a'.tmps) ∧ (Hh i).n ≤ (Hh (i + 1)).n ∧ (Hh (i + 1)).wlo ≤ (Hh i).wlo ∧ (¬ Hard iso pur i → Part (Hh i) (Hh (i + 1)) ∧ (Hh (i + 1)).wlo = (Hh i).wlo) := by
      have hself : Part (Hh i) (Hh i) := ⟨Nat.le_refl _, fun _ _ => rfl, p1.out⟩
      rcases hs with ⟨_, hv, hH⟩ | ⟨_, _, hH, hop⟩ | ⟨_, hpu, his, hop⟩ | ⟨_, _, _, H1, H1', g1, g2, g3, hop, g4, g5, g6, g7⟩
      · rw [hH, he, hv]
        exact ⟨⟨rho1, w1, a1.put (ops[i]).dst undef, p1, put_ok t1 hd vr_undef⟩, Nat.le_refl _, Nat.le_refl _, fun _ => ⟨hself, rfl⟩⟩
      · obtain ⟨a2, w2, cv, rfl, rho2, v2, p2, x2⟩ := wpIn_some (hop (Hh i) (fun _ _ => rfl) none base w0 rho1 w1 a1 p1 (t1.or _))
        rw [hH, he]
        exact ⟨⟨rho2, w2, _, p2, put_ok (t1.mono x2.mu) hd v2⟩, Nat.le_refl _, Nat.le_refl _, fun _ => ⟨hself, rfl⟩⟩
      · obtain ⟨a2, w2, cv, rfl, rho2, v2, p2, x2⟩ := wpIn_some (hop none base w0 rho1 w1 a1 p1 (t1.or _))
        rw [he]
        exact ⟨⟨rho2, w2, _, p2, put_ok (t1.mono x2.mu) hd v2⟩, x2.n, x2.wlo, fun hn => absurd ⟨his, hpu⟩ hn⟩
      · have p1' : PR P base w0 rho1 H1 w1 := p1.remark g1 g2 (by omega)
        have m1 : (mu rho1 (Hh i) w1).le (mu rho1 H1 w1) := ⟨fun b c ⟨h1, h2⟩ => ⟨by omega, fun ha => h2 (by rw [← g2]; exact ha)⟩, fun _ _ h => h⟩
        obtain ⟨a2, w2, cv, rfl, rho2, v2, p2, x2⟩ := wpIn_some (hop none base w0 rho1 w1 a1 p1' ((t1.mono m1).or _))
        have hn : (Hh i).n ≤ (Hh (i + 1)).n := by have := x2.n; omega
        have p3 : PR P base w0 rho2 (Hh (i + 1)) w2 := p2.remark g5 g6 (by have := p1.wn; omega)
        have m3 : (mu rho2 H1' w2).le (mu rho2 (Hh (i + 1)) w2) := ⟨fun b c ⟨h1, h2⟩ => ⟨by omega, fun ha => h2 (by rw [← g6]; exact ha)⟩, fun _ _ h => h⟩
        rw [he]
        refine ⟨⟨rho2, w2, _, p3, put_ok ((t1.mono m1).mono (M.le_trans x2.mu m3)) hd (VR.mono m3 _ _ v2)⟩, hn, by omega, fun _ => ⟨⟨hn, fun b hb => ?_, p1.out⟩, g7⟩⟩
        rw [g6, (x2.keep b (by omega) (by omega)).1, g2]
    refine ⟨key.1, fun j hj => ?_⟩
    by_cases hji : j = i
    · subst hji; exact key.2
    · exact h1 j (by omega)

theorem bat {n : Nat} (h : Heaps n iso pur Hh) : ∀ T, T ≤ n → ∀ k, k ≤ T → (∀ j, k ≤ j → j < T → ¬ Hard iso pur j) → Part (Hh k) (Hh T) ∧ (Hh T).wlo = (Hh k).wlo := by
  intro T
  induction T with
  | zero =>
    intro hT k hk _
    have : k = 0 := by omega
    subst this
    exact ⟨⟨Nat.le_refl _, fun _ _ => rfl, h.out 0 hT⟩, rfl⟩
  | succ T ih =>
    intro hT k hk hj
    by_cases hkT : k = T + 1
    · subst hkT; exact ⟨⟨Nat.le_refl _, fun _ _ => rfl, h.out _ hT⟩, rfl⟩
    · obtain ⟨h1, h2⟩ := ih (by omega) k (by omega) fun j h1 h2 => hj j h1 (by omega)
      obtain ⟨h3, h4⟩ := h.mild T (by omega) (hj T (by omega) (by omega))
      exact ⟨h1.trans h3, h4.trans h2⟩
theorem mono_n {n : Nat} (h : Heaps n iso pur Hh) : ∀ T, T ≤ n → ∀ k, k ≤ T → (Hh k).n ≤ (Hh T).n ∧ (Hh T).wlo ≤ (Hh k).wlo := by
  intro T
  induction T with
  | zero => intro hT k hk; have : k = 0 := by omega
            subst this; exact ⟨Nat.le_refl _, Nat.le_refl _⟩
  | succ T ih =>
    intro hT k hk
    by_cases hkT : k = T + 1
    · subst hkT; exact ⟨Nat.le_refl _, Nat.le_refl _⟩
    · obtain ⟨h1, h2⟩ := ih (by omega) k (by omega)
      obtain ⟨h3, h4⟩ := h.le T (by omega)
      exact ⟨by omega, by omega⟩
theorem next_hard (iso pur : Nat → Bool) (n : Nat) : ∀ m T, n - T = m → T ≤ n → ∃ T', T ≤ T' ∧ T' ≤ n ∧ (T' < n → Hard iso pur T') ∧ ∀ j, T ≤ j → j < T' → ¬ Hard iso pur j := by
  intro m
  induction m with
  | zero => intro T h1 h2; exact ⟨T, Nat.le_refl _, h2, fun h => by omega, fun j h3 h4 => by omega⟩
  | succ m ih =>
    intro T h1 h2
    by_cases hh : Hard iso pur T
    · exact ⟨T, Nat.le_refl _, h2, fun _ => hh, fun j h3 h4 => by omega⟩
    · obtain ⟨T', h3, h4, h5, h6⟩ := ih (T + 1) (by omega) (by omega)
      exact ⟨T', by omega, h4, h5, fun j h7 h8 => by
        by_cases hj : j = T
        · subst hj; exact hh
        · exact h6 j (by omega) h8⟩

def dOf (ops : Array Oper) (k : Nat) : Option Slot := (ops[k]?.bind (·.dst)).map slotOf

/-- A state on the way: T: the next operation that must stand where the text has it; Hx: the heap of then, with the new blocks of later that are there already. -/
structure Mid (P : Program) (nt : Nat) (ops : Array Oper) (iso pur al : Nat → Bool) (E : Nat → Env) (Hh : Nat → Heap) (Vv : Nat → V) (base : Nat) (w0 : World) (rho0 : Nat → Option Nat) (w00 : World) (ds : List Deferred) (listed : Array Bool) (a : Act) (w : World) (T : Nat) (rho : Nat → Option Nat) (Hx : Heap) : Prop where
  size : listed.size = ops.size
  closed : Closed ops listed
  le : T ≤ ops.size
  hard : T < ops.size → Hard iso pur T
  not : ¬ Been listed T
  been : ∀ i, i < T → Hard iso pur i → Been listed i
  xn : Hx.n = (Hh ops.size).n
  xw : Hx.wlo = (Hh T).wlo
  xlo : ∀ b, b < (Hh T).n → Hx.get b = (Hh T).get b
  xhi : ∀ b, (Hh T).n ≤ b → b < Hx.n → (Hx.get b).alive
  pr : PR P base w0 rho Hx w
  ext : Ext rho0 (Hh 0) w00 rho Hx w
  tr : TR (mu rho Hx w) nt (envS (dOf ops) Vv (E 0) (fun k => listed.getD k false) ops.size) a.tmps
  defers : a.defers = ds
  bound : ∀ b c, rho b = some c → ∀ k, k < T → ¬ Been listed k → ¬ ((Hh k).n ≤ b ∧ b < (Hh (k + 1)).n)
  kn : ∀ b c, rho b = some c → ∀ k, k ≤ T → (∀ j, k ≤ j → j < T → ¬ Hard iso pur j) → b < (Hh k).n → Kn P (Hh k) b
  pend : ∀ b c, rho b = some c → (Hh T).n ≤ b → w00.heap.size ≤ c ∧ ∃ i, T ≤ i ∧ i < ops.size ∧ Been listed i ∧ al i = true ∧ b = (Hh i).n ∧ ∃ (bl : Blk) (ob : Obj), NewTo (Hh i) bl (Hh (i + 1)) ∧ bl.alive ∧ (∀ m, BR P m bl ob) ∧ Hx.get b = bl

section walk
variable {al : Nat → Bool} {base : Nat} {w0 : World} {rho0 : Nat → Option Nat} {w00 : World} {ds : List Deferred} {rd : Option Nat} {Q : Exit → Act → World → Prop}
  (hst : ∀ j o, ops[j]? = some o → StepOK P nt ops (iso j) (pur j) (B j) o (E j) (Hh j) (Vv j) (E (j + 1)) (Hh (j + 1)))
  (hE : Edges ops) (hap : apartOK ops (Region.before ops) = true)
  (hiso : ∀ i j, Hard iso pur i → i ≠ j → pur j = false → j < ops.size → ((Region.before ops).getD i 0).testBit j = true ∨ ((Region.before ops).getD j 0).testBit i = true ∨ (al j = true ∧ i < j))
  (hhal : ∀ i, Hard iso pur i → al i = false)
  (hal : ∀ i o, ops[i]? = some o → al i = true → (GW nt (E i) ops o false ∧ Vv i = .tup [] ∧ Hh (i + 1) = Hh i) ∨ AlOK P o (Hh i) (Vv i) (Hh (i + 1)))
  (hhp : Heaps ops.size iso pur Hh) (hnt : nt ≤ 512) (hd0 : ∀ b c, rho0 b = some c → b < (Hh 0).n) (hc0 : ∀ b c, rho0 b = some c → c < w00.heap.size)
  (hB : ∀ i b, i < ops.size → B i = some b → b < (Hh 0).n)
  (hkp : ∀ i k b, i < ops.size → k < ops.size → B i = some b → Hard iso pur k → ordd (Region.before ops) i k = false → b < (Hh k).n → (Hh (k + 1)).get b = (Hh k).get b)
  (hke : ∀ i, i < ops.size → ∀ t, t < nt → ∃ m c, VR m (pget (slotOf t) (E i)) c ∧ ∀ b c', m.b b c' → b < (Hh i).n)
  (hQ : ∀ a' w' rho', a'.defers = ds → PR P base w0 rho' (Hh ops.size) w' → TR (mu rho' (Hh ops.size) w') nt (E ops.size) a'.tmps → Ext rho0 (Hh 0) w00 rho' (Hh ops.size) w' → Q .normal a' w')

include hst in
theorem e_step : ∀ k, k < ops.size → E (k + 1) = psetD (dOf ops k) (Vv k) (E k) := fun k hk => by
  have ho : ops[k]? = some ops[k] := Array.getElem?_eq_getElem hk
  obtain ⟨d, hd, he, _⟩ := hst k _ ho
  rw [he, (dstOf_eq hd).1]
  simp [dOf, ho]
include hst hnt in
theorem dOf_inj {k t : Nat} (hk : k < ops.size) (ht : t < nt) (h : dOf ops k = some (slotOf t)) : ∃ o, ops[k]? = some o ∧ o.dst = some t := by
  have ho : ops[k]? = some ops[k] := Array.getElem?_eq_getElem hk
  obtain ⟨d, hd, he, _⟩ := hst k _ ho
  obtain ⟨h1, h2⟩ := dstOf_eq hd
  refine ⟨_, ho, ?_⟩
  unfold dOf at h
  rw [ho, Option.bind_some, Option.map_eq_some_iff] at h
  obtain ⟨t', h3, h4⟩ := h
  have := h2 t' h3
  rw [h3, slotOf_inj (Nat.lt_of_lt_of_le this hnt) (Nat.lt_of_lt_of_le ht hnt) h4]

include hst hE hap hnt in
theorem view {listed : Array Bool} {i : Nat} {o : Oper} (hC : Closed ops listed) (ho : ops[i]? = some o) (hi : ¬ Been listed i) (hr : ∀ e ∈ o.after.toList, Region.binds .any e = true → Been listed e.on) {t : Nat} (ht : t ∈ namesOf ops o) (hlt : t < nt) :
    pget (slotOf t) (envS (dOf ops) Vv (E 0) (fun k => listed.getD k false) ops.size) = pget (slotOf t) (E i) := by
  have hin : i < ops.size := (Array.getElem?_eq_some_iff.1 ho).1
  refine envS_at (Nat.le_of_lt hin) (e_step hst) fun k hk hd => ?_
  obtain ⟨ok, hok, hdk⟩ := dOf_inj hst hnt hk hlt hd
  by_cases hki : k = i
  · subst hki
    exact ⟨fun h => absurd h hi, fun h => by omega⟩
  · have h1 := apart_of hap hok ho hki hdk ht
    split at h1
    · rename_i h2
      exact ⟨fun _ => h2, fun _ => before_been hE hC i k (Or.inr fun o' ho' => by rw [ho] at ho'; cases ho'; exact hr) h1⟩
    · rename_i h2
      exact ⟨fun hs => absurd (before_been hE hC k i (Or.inl hs) h1) hi, fun h => absurd h h2⟩
include hst hE hap hnt in
theorem tmps_put {listed : Array Bool} {i : Nat} {o : Oper} (hsz : listed.size = ops.size) (hC : Closed ops listed) (ho : ops[i]? = some o) (hi : ¬ Been listed i) {m : M} {a : Act} {cv : Value} (ht : TR m nt (envS (dOf ops) Vv (E 0) (fun k => listed.getD k false) ops.size) a.tmps) (hv : VR m (Vv i) cv) :
    TR m nt (envS (dOf ops) Vv (E 0) (fun k => (listed.setIfInBounds i true).getD k false) ops.size) (a.put o.dst cv).tmps := by
  have hin : i < ops.size := (Array.getElem?_eq_some_iff.1 ho).1
  obtain ⟨d, hd, _⟩ := hst i _ ho
  have hdo : dOf ops i = d := by rw [(dstOf_eq hd).1]; simp [dOf, ho]
  refine (put_ok ht hd hv).congr fun s => ?_
  rw [← hdo]
  refine envS_put hin (by simpa [Been] using hi) (fun k => been_set (by omega)) (fun k hk hik hs s' h1 h2 => ?_) s
  unfold dOf at h1 h2
  have hok : ops[k]? = some ops[k] := Array.getElem?_eq_getElem hk
  rw [hok, Option.bind_some, Option.map_eq_some_iff] at h1
  rw [ho, Option.bind_some, Option.map_eq_some_iff] at h2
  obtain ⟨tk, h3, h4⟩ := h1
  obtain ⟨ti, h5, h6⟩ := h2
  obtain ⟨dk, hdk, _⟩ := hst k _ hok
  have hti := (dstOf_eq hd).2 ti h5
  have htk := (dstOf_eq hdk).2 tk h3
  have : ti = tk := slotOf_inj (Nat.lt_of_lt_of_le hti hnt) (Nat.lt_of_lt_of_le htk hnt) (h6.trans h4.symm)
  subst this
  have h7 := apart_of hap ho hok (by omega) h5 (show ti ∈ namesOf ops ops[k] from List.mem_append_left _ (by simp [h3]))
  rw [if_pos hik] at h7
  exact hi (before_been hE hC k i (Or.inl hs) h7)

theorem closed_set {listed : Array Bool} {i : Nat} {o : Oper} (hi : i < listed.size) (hC : Closed ops listed) (ho : ops[i]? = some o) (hr : ∀ e ∈ o.after.toList, Region.binds .any e = true → Been listed e.on) : Closed ops (listed.setIfInBounds i true) := fun j hj o' ho' e he hb => by
  rw [been_set hi] at hj ⊢
  rcases hj with rfl | hj
  · rw [ho] at ho'; cases ho'
    exact Or.inr (hr e he hb)
  · exact Or.inr (hC j hj o' ho' e he hb)

theorem count_set {l : List Bool} {i : Nat} (hi : l[i]? = some false) : (l.set i true).count false + 1 = l.count false := by
  have hlt : i < l.length := (List.getElem?_eq_some_iff.1 hi).1
  have hv : l[i] = false := (List.getElem?_eq_some_iff.1 hi).2
  rw [List.count_set hlt, hv]
  have : 0 < l.count false := List.count_pos_iff.2 (by rw [← hv]; exact List.getElem_mem hlt)
  simp
  omega

include hst hE hap hiso hhal hal hhp hnt hd0 hc0 hke hB hkp hQ in
theorem walk (h0out : ∀ b, (Hh 0).n ≤ b → (Hh 0).get b = .dead) : ∀ (fuel : Nat) (listed : Array Bool) (a : Act) (w : World) (T : Nat) (rho : Nat → Option Nat) (Hx : Heap), Mid P nt ops iso pur al E Hh Vv base w0 rho0 w00 ds listed a w T rho Hx → listed.toList.count false = fuel → wpAnyIn (WF rd) 0 P .any ops Q fuel listed a w := by
  have hN : ∀ T, T ≤ ops.size → (Hh T).n ≤ (Hh ops.size).n := fun T hT => (mono_n hhp ops.size (Nat.le_refl _) T hT).1
  have h0N : ∀ T, T ≤ ops.size → (Hh 0).n ≤ (Hh T).n := fun T hT => (mono_n hhp T hT 0 (Nat.zero_le _)).1
  -- at the end
  have fin : ∀ (listed : Array Bool) (a : Act) (w : World) (T : Nat) (rho : Nat → Option Nat) (Hx : Heap), Mid P nt ops iso pur al E Hh Vv base w0 rho0 w00 ds listed a w T rho Hx → (∀ i, i < ops.size → Been listed i) → Q .normal a w := fun listed a w T rho Hx hM hall => by
    have hT : T = ops.size := by
      rcases Nat.lt_or_ge T ops.size with h | h
      · exact absurd (hall T h) hM.not
      · have := hM.le; omega
    subst hT
    have hg : ∀ b, (Hh ops.size).get b = Hx.get b := fun b => by
      rcases Nat.lt_or_ge b (Hh ops.size).n with h | h
      · exact (hM.xlo b h).symm
      · rw [hhp.out _ (Nat.le_refl _) b h, hM.pr.out b (by rw [hM.xn]; exact h)]
    have hm : (mu rho Hx w).le (mu rho (Hh ops.size) w) := ⟨fun b c hx => ⟨by rw [← hM.xn]; exact hx.1, by rw [hg]; exact hx.2⟩, fun _ _ h => h⟩
    refine hQ a w rho hM.defers (hM.pr.remark hM.xn.symm hg (hhp.wn _ (Nat.le_refl _))) ((hM.tr.mono hm).congr fun s => ?_) (hM.ext.re hd0 hc0 h0out (h0N _ (Nat.le_refl _)) hM.xw.symm (fun b _ => hg b) (fun _ _ => rfl) (fun b c _ h => Or.inl h) (fun _ _ => rfl) hM.ext.size)
    exact (envS_at (Nat.le_refl _) (e_step hst) fun k hk _ => ⟨fun _ => hk, fun _ => hall k hk⟩).symm
  have hready : ∀ (listed : Array Bool), Region.ready .any ops listed = [] → listed.size = ops.size → ∀ i, i < ops.size → Been listed i := fun listed hr hsz i => by
    induction i using Nat.strongRecOn with
    | _ i ih =>
      intro hi
      by_cases hb : Been listed i
      · exact hb
      · have ho : ops[i]? = some ops[i] := Array.getElem?_eq_getElem hi
        have hmem : i ∈ Region.ready .any ops listed := mem_ready.2 ⟨by
          have hex : listed[i]? = some listed[i] := Array.getElem?_eq_getElem (by omega)
          unfold Been at hb
          rw [Array.getD_eq_getD_getElem?, hex] at hb ⊢
          simpa using hb, _, ho, fun e he hbd => ih e.on (hE i _ ho e (by simpa using he) hbd) (by have := hE i _ ho e (by simpa using he) hbd; omega)⟩
        rw [hr] at hmem
        cases hmem
  intro fuel
  induction fuel with
  | zero =>
    intro listed a w T rho Hx hM hc
    have hall : ∀ i, i < ops.size → Been listed i := fun i hi => by
      have hlt : i < listed.size := by rw [hM.size]; exact hi
      have hex : listed[i]? = some listed[i] := Array.getElem?_eq_getElem hlt
      unfold Been
      rw [Array.getD_eq_getD_getElem?, hex, Option.getD_some]
      cases hv : listed[i] with
      | true => rfl
      | false =>
        have : false ∈ listed.toList := by rw [← hv]; simp
        rw [List.count_eq_zero] at hc
        exact absurd this hc
    refine ⟨?_, fin listed a w T rho Hx hM hall⟩
    refine List.eq_nil_iff_forall_not_mem.2 fun i hi => ?_
    obtain ⟨h1, o, ho, _⟩ := mem_ready.1 hi
    have hb := hall i (Array.getElem?_eq_some_iff.1 ho).1
    have hlt : i < listed.size := by rw [hM.size]; exact (Array.getElem?_eq_some_iff.1 ho).1
    have hex : listed[i]? = some listed[i] := Array.getElem?_eq_getElem hlt
    unfold Been at hb
    rw [Array.getD_eq_getD_getElem?, hex, Option.getD_some] at hb h1
    rw [hb] at h1
    cases h1
  | succ fuel ih =>
    intro listed a w T rho Hx hM hc
    refine ⟨fun hr => fin listed a w T rho Hx hM (hready listed hr hM.size), fun i hi => ?_⟩
    obtain ⟨h1, o, ho, hr0⟩ := mem_ready.1 hi
    have hin : i < ops.size := (Array.getElem?_eq_some_iff.1 ho).1
    have hil : i < listed.size := by rw [hM.size]; exact hin
    have hex : listed[i]? = some listed[i] := Array.getElem?_eq_getElem hil
    have hv : listed[i] = false := by rw [Array.getD_eq_getD_getElem?, hex, Option.getD_some] at h1; exact h1
    have hnb : ¬ Been listed i := by unfold Been; rw [Array.getD_eq_getD_getElem?, hex, Option.getD_some, hv]; simp
    have hr : ∀ e ∈ o.after.toList, Region.binds .any e = true → Been listed e.on := fun e he hb => hr0 e (by simpa using he) hb
    have hc' : (listed.setIfInBounds i true).toList.count false = fuel := by
      have := count_set (l := listed.toList) (i := i) (by simpa [hv] using hex)
      rw [Array.toList_setIfInBounds]
      omega
    have hsz' : (listed.setIfInBounds i true).size = ops.size := by simpa using hM.size
    have hC' := closed_set hil hM.closed ho hr
    have hview : ∀ t, t ∈ o.looksAt ops → t < nt → pget (slotOf t) (envS (dOf ops) Vv (E 0) (fun k => listed.getD k false) ops.size) = pget (slotOf t) (E i) := fun t ht hlt => view hst hE hap hnt hM.closed ho hnb hr (List.mem_append_right _ ht) hlt
    have hgt : GT nt (mu rho Hx w) (E i) ops o a.tmps := gt_at hM.tr hview
    have hor : OR (mu rho Hx w) nt (E i) a o := or_at hM.tr hview
    have hput : ∀ {m : M} {cv : Value}, TR m nt (envS (dOf ops) Vv (E 0) (fun k => listed.getD k false) ops.size) a.tmps → VR m (Vv i) cv → TR m nt (envS (dOf ops) Vv (E 0) (fun k => (listed.setIfInBounds i true).getD k false) ops.size) (a.put o.dst cv).tmps := fun ht hv => tmps_put hst hE hap hnt hM.size hM.closed ho hnb ht hv
    have hbi : ∀ k, ((Region.before ops).getD i 0).testBit k = true → Been listed k := fun k hk => before_been hE hM.closed i k (Or.inr fun o' ho' => by rw [ho] at ho'; cases ho'; exact hr) hk
    have hTn : ∀ j, j ≠ T → pur j = false → j < ops.size → T < ops.size → ¬ Been listed j → (∀ k, ((Region.before ops).getD j 0).testBit k = true → Been listed k) → j < T ∨ (al j = true ∧ T < j) := fun j h2 h3 h4 h5 h6 h7 => by
      rcases hiso T j (hM.hard h5) (Ne.symm h2) h3 h4 with h8 | h8 | h8
      · exact Or.inl (before_lt hE T j h8)
      · exact absurd (h7 T h8) hM.not
      · exact Or.inr h8
    have hpx : Part (Hh T) Hx := ⟨by rw [hM.xn]; exact hN T hM.le, hM.xlo, hhp.out T hM.le⟩
    -- operands that were there when the text had come so far
    have low : ∀ (H1 : Heap), Part H1 Hx → (Hh i).n ≤ H1.n → OR (mu (cutAt H1.n rho) H1 w) nt (E i) a o := fun H1 hp1 hn1 x hx ar har => by
      have v2 := hor x hx ar har
      have hkn : ∃ m c, VR m (pgetA ar (E i)) c ∧ ∀ b c', m.b b c' → b < H1.n := by
        unfold compArg at har
        split at har
        · split at har
          · rename_i t ht
            cases har
            obtain ⟨m, c, q1, q2⟩ := hke i hin t ht
            exact ⟨m, c, q1, fun b c' hm => Nat.lt_of_lt_of_le (q2 b c' hm) hn1⟩
          · cases har
        · simp only [Option.map_eq_some_iff] at har
          obtain ⟨u, hu, rfl⟩ := har
          exact ⟨⟨fun _ _ => False, fun _ _ => False⟩, _, constV_ok hu, fun _ _ h => h.elim⟩
        · cases har
          exact ⟨⟨fun _ _ => False, fun _ _ => False⟩, _, by simp only [pgetA, VR]; exact ⟨#[], rfl, by simp only [VRs]⟩, fun _ _ h => h.elim⟩
        · cases har
      obtain ⟨m, c, q1, q2⟩ := hkn
      exact VR.mono (meet_cut q2 hp1) _ _ (VR.meet _ _ _ q1 v2)
    obtain ⟨d, hd, he, hs⟩ := hst i o ho
    unfold wpOpIn
    simp only [ho]
    by_cases hh : Hard iso pur i
    · -- an operation that stands where the text has it
      have hiT : i = T := by
        by_cases hiT : i = T
        · exact hiT
        · exfalso
          have hlt : i < T := by
            rcases Nat.lt_or_ge T ops.size with h | h
            · rcases hTn i hiT hh.2 hin h hnb hbi with h' | h'
              · exact h'
              · rw [hhal i hh] at h'; cases h'.1
            · omega
          exact hnb (hM.been i hlt hh)
      subst hiT
      have prT : PR P base w0 (cutAt (Hh i).n rho) (Hh i) w := hM.pr.part hpx (hhp.wn i hM.le) fun b c hr hb => hM.kn b c hr i (Nat.le_refl _) (fun j h1 h2 => by omega) hb
      have orT := low (Hh i) hpx (Nat.le_refl _)
      have adv : ∀ (rho' : Nat → Option Nat) (w' : World) (cv : Value), PR P base w0 rho' (Hh (i + 1)) w' → Ext (cutAt (Hh i).n rho) (Hh i) w rho' (Hh (i + 1)) w' → VR (mu rho' (Hh (i + 1)) w') (Vv i) cv → wpAnyIn (WF rd) 0 P .any ops Q fuel (listed.setIfInBounds i true) (a.put o.dst cv) w' := fun rho' w' cv p1 x1 v1 => by
        obtain ⟨T', t1, t2, t3, t4⟩ := next_hard iso pur ops.size _ (i + 1) rfl hin
        obtain ⟨b1, b2⟩ := bat hhp T' t2 (i + 1) t1 t4
        have hiN := (mono_n hhp (i + 1) (by omega) i (by omega)).1
        obtain ⟨Hy, y1, y2, y3, y4⟩ := heap_of (fun b => if b < (Hh T').n then (Hh T').get b else Hx.get b) (Hh ops.size).n (Hh T').wlo
        -- what waits
        have wait : ∀ b c, rho b = some c → (Hh i).n ≤ b → (Hh (i + 1)).n ≤ b ∧ w00.heap.size ≤ c ∧ ∃ i0, i + 1 ≤ i0 ∧ i0 < ops.size ∧ Been listed i0 ∧ al i0 = true ∧ b = (Hh i0).n ∧ ∃ (bl : Blk) (ob : Obj), NewTo (Hh i0) bl (Hh (i0 + 1)) ∧ bl.alive ∧ (∀ m, BR P m bl ob) ∧ Hx.get b = bl := fun b c hr hb => by
          obtain ⟨g0, i0, g1, g2, g3, g4, g5, g6⟩ := hM.pend b c hr hb
          have hne : i0 ≠ i := fun h => by subst h; rw [hhal _ hh] at g4; cases g4
          have hle : i + 1 ≤ i0 := by omega
          exact ⟨by rw [g5]; exact (mono_n hhp i0 (by omega) (i + 1) hle).1, g0, i0, hle, g2, g3, g4, g5, g6⟩
        have pnd : ∀ b c, rho b = some c → (Hh i).n ≤ b → Hy.get b = Hx.get b ∧ b < (Hh ops.size).n ∧ w'.heap[c]? = w.heap[c]? ∧ ∀ b0, rho' b0 ≠ some c := fun b c hr hb => by
          obtain ⟨_, _, i0, g1, g2, _, _, g5, bl, ob, g6, _, _, g7⟩ := wait b c hr hb
          have hbN : b < (Hh ops.size).n := by
            have := hN (i0 + 1) (by omega)
            have := g6.n
            omega
          have hcs := (hM.pr.dom b c hr).2.2.1
          refine ⟨?_, hbN, x1.fr c hcs fun b0 hb0 => ?_, fun b0 hb0 => ?_⟩
          · rw [y3 b hbN]
            split
            · rename_i hlt
              have h2 : i0 + 1 ≤ T' := by
                rcases Nat.lt_or_ge i0 T' with h | h
                · exact h
                · have := (mono_n hhp i0 (by omega) T' h).1; omega
              obtain ⟨q1, _⟩ := bat hhp T' t2 (i0 + 1) h2 fun j h3 h4 => t4 j (by omega) h4
              rw [q1.get b (by have := g6.n; omega), g7, g5, g6.get]
            · rfl
          · obtain ⟨h3, h4⟩ := cutAt_some hb0
            have := hM.pr.inj b0 b c h4 hr
            omega
          · rcases Nat.lt_or_ge b0 (Hh i).n with h | h
            · have h3 := (cutAt_some (x1.old b0 c h hb0)).2
              have := hM.pr.inj b0 b c h3 hr
              omega
            · rcases x1.new b0 c h hb0 with h3 | ⟨b2, h3, _⟩
              · omega
              · obtain ⟨h4, h5⟩ := cutAt_some h3
                have := hM.pr.inj b2 b c h5 hr
                omega
        have hTN := hN T' t2
        have hyget : ∀ b, b < (Hh (i + 1)).n → Hy.get b = (Hh (i + 1)).get b := fun b hb => by
          have := b1.n
          rw [y3 b (by omega), if_pos (by omega), b1.get b hb]
        generalize hrho2 : (fun b => if b < (Hh (i + 1)).n then rho' b else rho b) = rho2
        have r2lo : ∀ b, b < (Hh (i + 1)).n → rho2 b = rho' b := fun b hb => by rw [← hrho2]; exact if_pos hb
        have r2hi : ∀ b, (Hh (i + 1)).n ≤ b → rho2 b = rho b := fun b hb => by rw [← hrho2]; exact if_neg (by omega)
        have m1 : (mu rho' (Hh (i + 1)) w').le (mu rho2 Hy w') := ⟨fun b c ⟨g1, g2⟩ => ⟨by rw [y1]; have := b1.n; omega, fun ha => by rw [r2lo b g1]; exact g2 (by rw [← hyget b g1]; exact ha)⟩, fun _ _ h => h⟩
        have mX : (mu rho Hx w).le (mu rho2 Hy w') := by
          refine ⟨fun b c ⟨g1, g2⟩ => ?_, x1.mu.2⟩
          rcases Nat.lt_or_ge b (Hh i).n with h | h
          · exact m1.1 b c (x1.mu.1 b c ⟨h, fun ha => by rw [cutAt_lt h]; exact g2 (by rw [hM.xlo b h]; exact ha)⟩)
          · have hr := g2 (hM.xhi b h g1)
            exact ⟨by rw [y1, ← hM.xn]; exact g1, fun _ => by rw [r2hi b (wait b c hr h).1]; exact hr⟩
        have cross : ∀ b b' c, rho' b = some c → rho b' = some c → (Hh (i + 1)).n ≤ b' → False := fun b b' c h1 h2 h3 => (pnd b' c h2 (by omega)).2.2.2 b h1
        have p2 : PR P base w0 rho2 Hy w' := by
          refine ⟨p1.below, p1.base_le, by rw [y1, y2]; have := hhp.wn T' t2; omega, fun b c hrb => ?_, fun b b' c h1 h2 => ?_, fun b c hrb => ?_, fun b hb => y4 b (by rw [← y1]; exact hb)⟩
          · rcases Nat.lt_or_ge b (Hh (i + 1)).n with h | h
            · rw [r2lo b h] at hrb
              obtain ⟨g1, g2, g3, g4⟩ := p1.dom b c hrb
              exact ⟨by rw [y1]; have := b1.n; omega, g2, g3, by rw [hyget b h]; exact g4⟩
            · rw [r2hi b h] at hrb
              obtain ⟨g1, g2, g3, g4⟩ := hM.pr.dom b c hrb
              exact ⟨by rw [y1, ← hM.xn]; exact g1, g2, Nat.lt_of_lt_of_le g3 x1.size, by rw [(pnd b c hrb (by omega)).1]; exact g4⟩
          · rcases Nat.lt_or_ge b (Hh (i + 1)).n with h | h <;> rcases Nat.lt_or_ge b' (Hh (i + 1)).n with h' | h'
            · rw [r2lo b h] at h1; rw [r2lo b' h'] at h2; exact p1.inj b b' c h1 h2
            · rw [r2lo b h] at h1; rw [r2hi b' h'] at h2; exact (cross b b' c h1 h2 h').elim
            · rw [r2hi b h] at h1; rw [r2lo b' h'] at h2; exact (cross b' b c h2 h1 h).elim
            · rw [r2hi b h] at h1; rw [r2hi b' h'] at h2; exact hM.pr.inj b b' c h1 h2
          · rcases Nat.lt_or_ge b (Hh (i + 1)).n with h | h
            · rw [r2lo b h] at hrb
              obtain ⟨ob, g1, g2⟩ := p1.blk b c hrb
              exact ⟨ob, g1, by rw [hyget b h]; exact g2.mono m1⟩
            · rw [r2hi b h] at hrb
              obtain ⟨ob, g1, g2⟩ := hM.pr.blk b c hrb
              obtain ⟨q1, _, q2, _⟩ := pnd b c hrb (by omega)
              exact ⟨ob, by rw [q2]; exact g1, by rw [q1]; exact g2.mono mX⟩
        have e1 : Ext rho0 (Hh 0) w00 (cutAt (Hh i).n rho) (Hh i) w := hM.ext.re hd0 hc0 h0out (h0N i hM.le) hM.xw.symm (fun b hb => (hM.xlo b (by have := h0N i hM.le; omega)).symm) (fun b hb => cutAt_lt (by have := h0N i hM.le; omega)) (fun b c _ h => Or.inl (cutAt_some h).2) (fun _ _ => rfl) hM.ext.size
        have e2 := Ext.trans hd0 e1 x1
        have h01 := h0N (i + 1) (by omega)
        have x3 : Ext rho0 (Hh 0) w00 rho2 Hy w' := e2.re hd0 hc0 h0out (by rw [y1]; exact h0N _ (Nat.le_refl _)) (by rw [y2, b2]) (fun b hb => hyget b (by omega)) (fun b hb => r2lo b (by omega)) (fun b c hb hr => by
          rcases Nat.lt_or_ge b (Hh (i + 1)).n with h | h
          · exact Or.inl (by rw [← r2lo b h]; exact hr)
          · rw [r2hi b h] at hr
            exact Or.inr (wait b c hr (by omega)).2.1) (fun _ _ => rfl) e2.size
        refine ih _ _ _ T' rho2 Hy ⟨hsz', hC', t2, t3, fun hb => ?_, fun j hj hjh => ?_, y1, y2, fun b hb => by rw [y3 b (by omega), if_pos hb], fun b hb hb' => ?_, p2, x3, hput (hM.tr.mono mX) (VR.mono m1 _ _ v1), (put_defers _ _ _).trans hM.defers, fun b c hrb k hk hnk => ?_, fun b c hrb k hk hkj hbk => ?_, fun b c hrb hb => ?_⟩ hc'
        · rw [been_set hil] at hb
          rcases hb with hb | hb
          · omega
          · rcases Nat.lt_or_ge T' ops.size with h | h
            · have hp := t3 h
              rcases hiso T' i hp (by omega) hh.2 hin with h8 | h8 | h8
              · exact hnb (before_been hE hM.closed T' i (Or.inl hb) h8)
              · have := before_lt hE i T' h8; omega
              · rw [hhal i hh] at h8; cases h8.1
            · unfold Been at hb
              rw [Array.getD_eq_getD_getElem?, Array.getElem?_eq_none (by rw [hM.size]; exact h)] at hb
              simp at hb
        · rw [been_set hil]
          by_cases hji : j = i
          · exact Or.inl hji
          · rcases Nat.lt_or_ge j i with h | h
            · exact Or.inr (hM.been j h hjh)
            · exact absurd hjh (t4 j (by omega) hj)
        · rw [y1] at hb'
          rw [y3 b hb', if_neg (by omega)]
          exact hM.xhi b (by have := b1.n; omega) (by rw [hM.xn]; exact hb')
        · rw [been_set hil] at hnk
          have hki : k ≠ i := fun h => hnk (Or.inl h)
          rintro ⟨g1, g2⟩
          rcases Nat.lt_or_ge b (Hh (i + 1)).n with hb | hb
          · rw [r2lo b hb] at hrb
            rcases Nat.lt_or_ge k i with h | h
            · have hn1 := (mono_n hhp i hM.le (k + 1) (by omega)).1
              exact hM.bound b c (cutAt_some (x1.old b c (by omega) hrb)).2 k h (fun h => hnk (Or.inr h)) ⟨g1, g2⟩
            · have hn1 := (mono_n hhp k (by omega) (i + 1) (by omega)).1
              omega
          · rw [r2hi b hb] at hrb
            obtain ⟨_, _, i0, q1, q2, q3, _, q5, bl, ob, q6, _⟩ := wait b c hrb (by omega)
            have hk0 : k ≠ i0 := fun h => hnk (Or.inr (h ▸ q3))
            have := q6.n
            rcases Nat.lt_or_ge k i0 with h | h
            · have := (mono_n hhp i0 (by omega) (k + 1) (by omega)).1; omega
            · have := (mono_n hhp k (by omega) (i0 + 1) (by omega)).1; omega
        · rcases Nat.lt_or_ge b (Hh (i + 1)).n with hb | hb
          · rw [r2lo b hb] at hrb
            rcases Nat.lt_or_ge i k with h | h
            · exact (p1.kn hrb).part (bat hhp k (by omega) (i + 1) h fun j h1 h2 => t4 j h1 (by omega)).1 hb
            · exact absurd hh (hkj i h (by omega))
          · rw [r2hi b hb] at hrb
            obtain ⟨_, _, i0, q1, q2, _, _, q5, bl, ob, q6, _, q7, _⟩ := wait b c hrb (by omega)
            have hk1 : i0 + 1 ≤ k := by
              rcases Nat.lt_or_ge i0 k with h | h
              · exact h
              · have := (mono_n hhp i0 (by omega) k h).1; omega
            obtain ⟨q8, _⟩ := bat hhp k (by omega) (i0 + 1) hk1 fun j h3 h4 => t4 j (by omega) (by omega)
            exact ⟨⟨fun _ _ => False, fun _ _ => False⟩, ob, by rw [q8.get b (by have := q6.n; omega), q5, q6.get]; exact q7 _, fun _ _ h => h.elim⟩
        · have hb1 : (Hh (i + 1)).n ≤ b := by have := b1.n; omega
          rw [r2hi b hb1] at hrb
          obtain ⟨_, q0, i0, q1, q2, q3, q4, q5, bl, ob, q6, q7, q8, q9⟩ := wait b c hrb (by omega)
          refine ⟨q0, i0, ?_, q2, (been_set hil).2 (Or.inr q3), q4, q5, bl, ob, q6, q7, q8, by rw [(pnd b c hrb (by omega)).1]; exact q9⟩
          rcases Nat.lt_or_ge i0 T' with h | h
          · have := (mono_n hhp T' t2 (i0 + 1) h).1
            have := q6.n
            omega
          · exact h
      rcases hs with ⟨hw, hv, hH⟩ | ⟨_, hpu, _⟩ | ⟨hw, hpu, his, hop⟩ | ⟨_, _, his, _⟩
      · simp only [hw _ _ hgt, Bool.false_eq_true, if_false]
        refine ⟨fun _ _ => trivial, adv (cutAt (Hh i).n rho) w undef (by rw [hH]; exact prT) (by rw [hH]; exact Ext.refl prT.lt) (by rw [hv]; exact vr_undef)⟩
      · rw [hh.2] at hpu; cases hpu
      · simp only [hw _ _ hgt, if_true]
        refine wpIn_lift (hop rd base w0 _ w a prT orT) fun a1 w1 hk => ?_
        obtain ⟨cv, rfl, rho1, v1, p1, x1⟩ := hk
        exact adv rho1 w1 cv p1 x1 v1
      · rw [hh.1] at his; cases his
    · -- any other
      have hiT : i ≠ T := fun h => by subst h; exact hh (hM.hard hin)
      have hnot' : ¬ Been (listed.setIfInBounds i true) T := fun h => by
        rw [been_set hil] at h
        exact h.elim (fun h => hiT h.symm) hM.not
      have hbeen' : ∀ j, j < T → Hard iso pur j → Been (listed.setIfInBounds i true) j := fun j hj hjh => by rw [been_set hil]; exact Or.inr (hM.been j hj hjh)
      have adv : ∀ (rho' : Nat → Option Nat) (w' : World) (cv : Value), PR P base w0 rho' Hx w' → Ext rho0 (Hh 0) w00 rho' Hx w' → (mu rho Hx w).le (mu rho' Hx w') → VR (mu rho' Hx w') (Vv i) cv → (∀ b c, rho' b = some c → rho b = some c ∨ (i < T ∧ (∀ j, i ≤ j → j < T → ¬ Hard iso pur j) ∧ (Hh i).n ≤ b ∧ b < (Hh (i + 1)).n ∧ Kn P (Hh (i + 1)) b)) → wpAnyIn (WF rd) 0 P .any ops Q fuel (listed.setIfInBounds i true) (a.put o.dst cv) w' := fun rho' w' cv p1 x1 m1 v1 hb => by
        refine ih _ _ _ T rho' Hx ⟨hsz', hC', hM.le, hM.hard, hnot', hbeen', hM.xn, hM.xw, hM.xlo, hM.xhi, p1, x1, hput (hM.tr.mono m1) v1, (put_defers _ _ _).trans hM.defers, fun b c hrb k hk hnk => ?_, fun b c hrb k hk hkj hbk => ?_, fun b c hrb hbT => ?_⟩ hc'
        · rw [been_set hil] at hnk
          rcases hb b c hrb with h | ⟨h1, _, h2, h3, _⟩
          · exact hM.bound b c h k hk fun h => hnk (Or.inr h)
          · rintro ⟨g1, g2⟩
            have hki : k ≠ i := fun h => hnk (Or.inl h)
            have hTs := hM.le
            rcases Nat.lt_or_ge k i with h | h
            · have := (mono_n hhp i (by omega) (k + 1) (by omega)).1; omega
            · have := (mono_n hhp k (by omega) (i + 1) (by omega)).1; omega
        · rcases hb b c hrb with h | ⟨h1, h0, h2, h3, h4⟩
          · exact hM.kn b c h k hk hkj hbk
          · have hTs := hM.le
            have hik : i + 1 ≤ k := by
              rcases Nat.lt_or_ge i k with h | h
              · exact h
              · have := (mono_n hhp i (by omega) k h).1; omega
            exact h4.part (bat hhp k (by omega) (i + 1) hik fun j g1 g2 => h0 j (by omega) (by omega)).1 h3
        · rcases hb b c hrb with h | ⟨h1, _, _, h3, _⟩
          · obtain ⟨q0, i0, q1, q2, q3, q4⟩ := hM.pend b c h hbT
            exact ⟨q0, i0, q1, q2, (been_set hil).2 (Or.inr q3), q4⟩
          · have hTs := hM.le
            have := (mono_n hhp T hTs (i + 1) h1).1
            omega
      rcases hs with ⟨hw, hv, hH⟩ | ⟨hw, hpu, hH, hop⟩ | ⟨hw, hpu, his, hop⟩ | ⟨hw, hpu, his, H1, H1', g1, g2, g3, hop, g4, g5, g6, g7⟩
      · simp only [hw _ _ hgt, Bool.false_eq_true, if_false]
        exact ⟨fun _ _ => trivial, adv rho w undef hM.pr hM.ext ⟨fun _ _ h => h, fun _ _ h => h⟩ (by rw [hv]; exact vr_undef) fun b c h => Or.inl h⟩
      · simp only [hw _ _ hgt, if_true]
        have hget : ∀ b, B i = some b → ∀ hi lo, lo ≤ hi → hi ≤ ops.size → (∀ k, lo ≤ k → k < hi → Hard iso pur k → ordd (Region.before ops) i k = false) → (Hh hi).get b = (Hh lo).get b := fun b hb hi => by
          induction hi with
          | zero =>
            intro lo h1 _ _
            rw [show lo = 0 by omega]
          | succ k ihk =>
            intro lo h1 h2 h3
            by_cases hlk : lo = k + 1
            · rw [hlk]
            · have hbn : b < (Hh k).n := by
                have := hB i b hin hb
                have := (mono_n hhp k (by omega) 0 (Nat.zero_le _)).1
                omega
              rw [← ihk lo (by omega) (by omega) fun q g1 g2 => h3 q g1 (by omega)]
              by_cases hhk : Hard iso pur k
              · exact hkp i k b hin (by omega) hb hhk (h3 k (by omega) (by omega) hhk) hbn
              · exact (hhp.mild k (by omega) hhk).1.get b hbn
        have hok : ∀ b, B i = some b → Hx.get b = (Hh i).get b := fun b hb => by
          have hbT : b < (Hh T).n := by
            have := hB i b hin hb
            have := h0N T hM.le
            omega
          rw [hM.xlo b hbT]
          rcases Nat.lt_or_ge i T with hlt | hge
          · refine hget b hb T i (by omega) hM.le fun k g1 g2 g3 => ?_
            have hki : k ≠ i := fun h => by subst h; rw [g3.2] at hpu; cases hpu
            have hbk := hM.been k g2 g3
            unfold ordd
            rw [Bool.or_eq_false_iff]
            refine ⟨?_, ?_⟩
            · cases hx : ((Region.before ops).getD i 0).testBit k with
              | false => rfl
              | true => have := before_lt hE i k hx; omega
            · cases hx : ((Region.before ops).getD k 0).testBit i with
              | false => rfl
              | true => exact absurd (before_been hE hM.closed k i (Or.inl hbk) hx) hnb
          · refine (hget b hb i T hge (by omega) fun k g1 g2 g3 => ?_).symm
            have hnk : ¬ Been listed k := fun hbk => by
              by_cases hkT : k = T
              · subst hkT; exact hM.not hbk
              · rcases hiso T k (hM.hard (by omega)) (Ne.symm hkT) g3.2 (by omega) with h8 | h8 | h8
                · have := before_lt hE T k h8; omega
                · exact hM.not (before_been hE hM.closed k T (Or.inl hbk) h8)
                · rw [hhal k g3] at h8; cases h8.1
            unfold ordd
            rw [Bool.or_eq_false_iff]
            refine ⟨?_, ?_⟩
            · cases hx : ((Region.before ops).getD i 0).testBit k with
              | false => rfl
              | true => exact absurd (hbi k hx) hnk
            · cases hx : ((Region.before ops).getD k 0).testBit i with
              | false => rfl
              | true => have := before_lt hE k i hx; omega
        refine wpIn_lift (hop Hx hok rd base w0 rho w a hM.pr hor) fun a1 w1 hk => ?_
        obtain ⟨cv, rfl, rho1, v1, p1, x1⟩ := hk
        exact adv rho1 w1 cv p1 (Ext.trans hd0 hM.ext x1) x1.mu v1 fun b c h => Or.inl (x1.old b c (p1.lt b c h) h)
      · exact absurd ⟨his, hpu⟩ hh
      · simp only [hw _ _ hgt, if_true]
        rcases (show i < T ∨ (al i = true ∧ T < i) by
          rcases Nat.lt_or_ge T ops.size with h | h
          · exact hTn i hiT hpu hin h hnb hbi
          · exact Or.inl (by omega)) with hlt | ⟨hali, hlt⟩
        · have hno : ∀ j, i ≤ j → j < T → ¬ Hard iso pur j := fun j h2 h3 hj => by
            have hbj := hM.been j h3 hj
            have hji : j ≠ i := fun h => by subst h; exact hnb hbj
            rcases hiso j i hj hji hpu hin with h8 | h8 | h8
            · exact hnb (before_been hE hM.closed j i (Or.inl hbj) h8)
            · have := before_lt hE i j h8; omega
            · omega
          obtain ⟨b1', b2⟩ := bat hhp T hM.le i (by omega) hno
          obtain ⟨b3', b4⟩ := bat hhp T hM.le (i + 1) hlt fun j h2 h3 => hno j (by omega) h3
          have b1 := b1'.trans hpx
          have b3 := b3'.trans hpx
          have hnn := (hhp.le i hin).1
          have hp1 : Part H1 Hx := ⟨by rw [g1]; exact b1.n, fun b hb => by rw [g2]; exact b1.get b (by omega), fun b hb => by rw [g2]; exact b1.out b (by omega)⟩
          have pc : PR P base w0 (cutAt H1.n rho) H1 w := hM.pr.part hp1 (by omega) fun b c hrb hb => by
            obtain ⟨m, o', q1, q2⟩ := hM.kn b c hrb i (by omega) hno (by omega)
            exact ⟨m, o', by rw [g2]; exact q1, fun b' c' hm => by rw [g1]; exact q2 b' c' hm⟩
          have oc : OR (mu (cutAt H1.n rho) H1 w) nt (E i) a o := low H1 hp1 (by omega)
          refine wpIn_lift (hop rd base w0 _ w a pc oc) fun a1 w1 hk => ?_
          obtain ⟨cv, rfl, rho1, v1, p1, x1⟩ := hk
          rw [g1] at x1
          obtain ⟨p2, m1, m2, e1, e2, e3⟩ := hM.pr.merge (Hi := Hh i) (Hi' := Hh (i + 1)) b1 b3 hnn (fun b c hrb => by
            rcases Nat.lt_or_ge b (Hh T).n with hbT | hbT
            · have := hM.bound b c hrb i hlt hnb
              omega
            · have := b3'.n
              omega) g1 p1 x1 g4 g5 g6 rfl
          have hN0 := (mono_n hhp i (by omega) 0 (Nat.zero_le _)).1
          refine adv _ w1 cv p2 (hM.ext.after hd0 hc0 (hhp.out 0 (Nat.zero_le _)) hN0 e1 (fun b c h => (e2 b c h).imp id fun h => h.2.2.1) e3 x1.size) m1 (VR.mono m2 _ _ v1) fun b c h => ?_
          rcases e2 b c h with h | ⟨h2, h3, h4, h5⟩
          · exact Or.inl h
          · refine Or.inr ⟨hlt, hno, h2, h3, ?_⟩
            obtain ⟨m, o', q1, q2⟩ := p1.kn h5
            exact ⟨m, o', by rw [g6]; exact q1, fun b' c' hm => by rw [g5]; exact q2 b' c' hm⟩
        · -- a new block that comes ahead of its time
          rcases hal i o ho hali with ⟨hw2, _⟩ | ⟨bl, ob, k1, k2, k3, _, k4, k5⟩
          · have h1 := hw _ _ hgt
            rw [hw2 _ _ hgt] at h1
            cases h1
          refine wpIn_lift (k5 rd w a) fun a1 w1 hk => ?_
          obtain ⟨rfl, rfl⟩ := hk
          have hb0T : (Hh T).n ≤ (Hh i).n := (mono_n hhp i (by omega) T (by omega)).1
          have hb0N : (Hh i).n < (Hh ops.size).n := by
            have := hN (i + 1) (by omega)
            have := k2.n
            omega
          have hfree : ∀ c, rho (Hh i).n ≠ some c := fun c hr => by
            obtain ⟨_, i0, q1, q2, q3, _, q5, bl', ob', q6, _⟩ := hM.pend _ c hr hb0T
            have hne : i0 ≠ i := fun h => hnb (h ▸ q3)
            rcases Nat.lt_or_ge i0 i with h | h
            · have := (mono_n hhp i (by omega) (i0 + 1) h).1
              have := q6.n
              omega
            · have := (mono_n hhp i0 (by omega) (i + 1) (by omega)).1
              have := k2.n
              omega
          obtain ⟨Hy, y1, y2, y3, y4⟩ := heap_of (fun b => if b = (Hh i).n then bl else Hx.get b) (Hh ops.size).n Hx.wlo
          have hy0 : Hy.get (Hh i).n = bl := by rw [y3 _ hb0N, if_pos rfl]
          have hyo : ∀ b, b ≠ (Hh i).n → Hy.get b = Hx.get b := fun b hb => by
            rcases Nat.lt_or_ge b (Hh ops.size).n with h | h
            · rw [y3 b h, if_neg hb]
            · rw [y4 b h, hM.pr.out b (by rw [hM.xn]; exact h)]
          have hold : ∀ c, c < w.heap.size → (w.alloc ob).heap[c]? = w.heap[c]? := fun c hc => Below.heap_alloc _ _ _ hc
          generalize hrho2 : (fun b => if b = (Hh i).n then some w.heap.size else rho b) = rho2
          have r20 : rho2 (Hh i).n = some w.heap.size := by rw [← hrho2]; exact if_pos rfl
          have r2o : ∀ b, b ≠ (Hh i).n → rho2 b = rho b := fun b hb => by rw [← hrho2]; exact if_neg hb
          have mX : (mu rho Hx w).le (mu rho2 Hy (w.alloc ob)) := by
            refine ⟨fun b c ⟨q1, q2⟩ => ⟨by rw [y1, ← hM.xn]; exact q1, fun ha => ?_⟩, fun c z ⟨cs, e, fr, q1, q2⟩ => ⟨cs, e, fr, by rw [hold c (Array.getElem?_eq_some_iff.1 q1).1]; exact q1, q2⟩⟩
            by_cases hb : b = (Hh i).n
            · subst hb
              exact absurd (q2 (hM.xhi _ hb0T q1)) (hfree c)
            · rw [r2o b hb]
              exact q2 (by rw [← hyo b hb]; exact ha)
          have p2 : PR P base w0 rho2 Hy (w.alloc ob) := by
            refine ⟨below_of hM.pr.below rfl rfl rfl (by simp) fun k hk => hold k (by have := hM.pr.base_le; omega), by have := hM.pr.base_le; simp; omega, by rw [y1, y2, ← hM.xn]; exact hM.pr.wn, fun b c hrb => ?_, fun b b' c h1 h2 => ?_, fun b c hrb => ?_, fun b hb => y4 b (by rw [← y1]; exact hb)⟩
            · by_cases hb : b = (Hh i).n
              · subst hb
                rw [r20] at hrb
                cases hrb
                exact ⟨by rw [y1]; exact hb0N, hM.pr.base_le, by simp, by rw [hy0]; exact k3⟩
              · rw [r2o b hb] at hrb
                obtain ⟨q1, q2, q3, q4⟩ := hM.pr.dom b c hrb
                exact ⟨by rw [y1, ← hM.xn]; exact q1, q2, by simp; omega, by rw [hyo b hb]; exact q4⟩
            · by_cases hb : b = (Hh i).n <;> by_cases hb' : b' = (Hh i).n
              · omega
              · subst hb
                rw [r20] at h1
                cases h1
                rw [r2o b' hb'] at h2
                have := (hM.pr.dom b' _ h2).2.2.1
                omega
              · subst hb'
                rw [r20] at h2
                cases h2
                rw [r2o b hb] at h1
                have := (hM.pr.dom b _ h1).2.2.1
                omega
              · rw [r2o b hb] at h1
                rw [r2o b' hb'] at h2
                exact hM.pr.inj b b' c h1 h2
            · by_cases hb : b = (Hh i).n
              · subst hb
                rw [r20] at hrb
                cases hrb
                exact ⟨ob, World.alloc_heap_new w _, by rw [hy0]; exact k4 _⟩
              · rw [r2o b hb] at hrb
                obtain ⟨o', q1, q2⟩ := hM.pr.blk b c hrb
                exact ⟨o', by rw [hold c (hM.pr.dom b c hrb).2.2.1]; exact q1, by rw [hyo b hb]; exact q2.mono mX⟩
          have h0i := h0N i (by omega)
          have x3 : Ext rho0 (Hh 0) w00 rho2 Hy (w.alloc ob) := hM.ext.re hd0 hc0 h0out (by rw [y1]; exact h0N _ (Nat.le_refl _)) y2 (fun b hb => hyo b (by omega)) (fun b hb => r2o b (by omega)) (fun b c _ hr => by
            by_cases hb : b = (Hh i).n
            · subst hb
              rw [r20] at hr
              cases hr
              exact Or.inr hM.ext.size
            · exact Or.inl (by rw [← r2o b hb]; exact hr)) (fun c hc => hold c (Nat.lt_of_lt_of_le hc hM.ext.size)) (by have := hM.ext.size; simp; omega)
          refine ih _ _ _ T rho2 Hy ⟨hsz', hC', hM.le, hM.hard, hnot', hbeen', y1, y2.trans hM.xw, fun b hb => by rw [hyo b (by omega)]; exact hM.xlo b hb, fun b hb hb' => ?_, p2, x3, hput (hM.tr.mono mX) ?_, (put_defers _ _ _).trans hM.defers, fun b c hrb k hk hnk => ?_, fun b c hrb k hk hkj hbk => ?_, fun b c hrb hbT => ?_⟩ hc'
          · by_cases hbb : b = (Hh i).n
            · subst hbb; rw [hy0]; exact k3
            · rw [hyo b hbb]
              exact hM.xhi b hb (by rw [hM.xn, ← y1]; exact hb')
          · rw [k1]
            simp only [VR]
            exact ⟨_, rfl, by rw [y1]; exact hb0N, fun _ => r20⟩
          · rw [been_set hil] at hnk
            by_cases hb : b = (Hh i).n
            · rintro ⟨_, q2⟩
              have := (mono_n hhp T hM.le (k + 1) hk).1
              omega
            · rw [r2o b hb] at hrb
              exact hM.bound b c hrb k hk fun h => hnk (Or.inr h)
          · by_cases hb : b = (Hh i).n
            · have := (mono_n hhp T hM.le k hk).1
              omega
            · rw [r2o b hb] at hrb
              exact hM.kn b c hrb k hk hkj hbk
          · by_cases hb : b = (Hh i).n
            · subst hb
              rw [r20] at hrb
              cases hrb
              exact ⟨hM.ext.size, i, by omega, hin, (been_set hil).2 (Or.inl rfl), hali, rfl, bl, ob, k2, k3, k4, hy0⟩
            · rw [r2o b hb] at hrb
              obtain ⟨q0, i0, q1, q2, q3, q4, q5, bl', ob', q6, q7, q8, q9⟩ := hM.pend b c hrb hbT
              exact ⟨q0, i0, q1, q2, (been_set hil).2 (Or.inr q3), q4, q5, bl', ob', q6, q7, q8, by rw [hyo b hb]; exact q9⟩
end walk
end
end Go.Ev
