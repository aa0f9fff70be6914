/- A region that draws its order. -/
import Derived.Test.YtmegpbadkojhbaaDoorEv26
set_option linter.unusedSectionVars false
set_option linter.unusedVariables false
set_option linter.unusedSimpArgs false
namespace Go.Ev
open Go.RowKit

/-- What an operation reaches, it reaches. -/
theorem wpIn_some {rd : Option Nat} {P : Program} {o : Oper} {a : Act} {w : World} {K : Act → World → Prop} (h : o.wpIn (WF rd) 0 P a w K (fun _ _ _ => False)) : ∃ a' w', K a' w' := by
  have h := h.2
  have hroom : ∀ k, (WF rd).room k := fun k => by simp [Fence.room]
  generalize (o.semAt (WF rd).round a.eval).run P w = r at *
  cases r with
  | ok x w' =>
    cases x <;> simp only [Oper.uponIn] at h
    case value v => exact ⟨_, _, h⟩
    case skip => exact ⟨_, _, h⟩
    case defer d => exact ⟨_, _, h⟩
    case enter f args =>
      obtain ⟨e, w'', fr, he, _⟩ := h.2.2 [] (hroom _)
      cases e with
      | returned u => exact ⟨_, _, he⟩
      | panicked c => exact he.elim
      | outgrown => obtain ⟨_, _, h⟩ := he; exact h.elim
    case row row args =>
      obtain ⟨v, w'', he, _⟩ := h.2 default [] (hroom _)
      exact ⟨_, _, he⟩
    case round l f tmps assign body =>
      obtain ⟨e, w'', he, _⟩ := h.2.2 default [] (hroom _)
      cases e with
      | returned u => exact ⟨_, _, he⟩
      | panicked c => exact he.elim
      | outgrown => obtain ⟨_, _, h⟩ := he; exact h.elim
  | halt x w' =>
    cases x <;> simp only [Oper.uponIn] at h

theorem M.le_trans {m1 m2 m3 : M} (h : m1.le m2) (k : m2.le m3) : m1.le m3 := ⟨fun b c x => k.1 _ _ (h.1 _ _ x), fun c z x => k.2 _ _ (h.2 _ _ x)⟩

theorem dstOf_eq {nt : Nat} {x : Option Tmp} {d : Option Slot} (h : dstOf nt x = some d) : d = x.map slotOf ∧ ∀ t, x = some t → t < nt := by
  unfold dstOf at h
  split at h
  · cases h; exact ⟨rfl, fun _ h => by cases h⟩
  · split at h
    · rename_i hlt
      cases h
      exact ⟨rfl, fun t ht => by cases ht; exact hlt⟩
    · cases h

theorem TR.congr {m : M} {nt : Nat} {e e' : Env} {tmps : Array Value} (h : TR m nt e tmps) (he : ∀ s, pget s e' = pget s e) : TR m nt e' tmps :=
  ⟨h.size, h.le, fun t v hv => by rw [he]; exact h.get t v hv, fun t h1 h2 => by rw [he]; exact h.rest t h1 h2⟩

/-- The operands, where the environment is right at their slots. -/
theorem or_at {m : M} {nt : Nat} {e e' : Env} {a : Act} {o : Oper} {ops : Array Oper} (h : TR m nt e a.tmps) (he : ∀ t, t ∈ o.looksAt ops → t < nt → pget (slotOf t) e = pget (slotOf t) e') : OR m nt e' a o := fun x hx ar har => by
  have h1 := compArg_ok h har
  have h2 : pgetA ar e = pgetA ar e' := by
    unfold compArg at har
    split at har
    · rename_i t
      split at har
      · rename_i hlt
        cases har
        exact he t (List.mem_append_left _ (List.mem_filterMap.2 ⟨.tmp t, by simpa using hx, rfl⟩)) hlt
      · cases har
    · simp only [Option.map_eq_some_iff] at har
      obtain ⟨u, _, rfl⟩ := har
      rfl
    · cases har; rfl
    · cases har
  rw [← h2]
  exact h1
theorem gt_at {m : M} {nt : Nat} {e e' : Env} {tmps : Array Value} {o : Oper} {ops : Array Oper} (h : TR m nt e tmps) (he : ∀ t, t ∈ o.looksAt ops → t < nt → pget (slotOf t) e = pget (slotOf t) e') : GT nt m e' ops o tmps := fun j b o' d h1 h2 h3 hlt => by
  obtain ⟨v, h4, h5⟩ := h.gt ops o j b o' d h1 h2 h3 hlt
  refine ⟨v, h4, ?_⟩
  rw [← he d ?_ hlt]
  · exact h5
  · unfold Oper.looksAt
    refine List.mem_append_right _ ?_
    rw [h1]
    simp [h2, h3]

theorem ext_heap {rho : Nat → Option Nat} {H : Heap} {w w' : World} (hd : ∀ b c, rho b = some c → b < H.n) (h : w'.heap = w.heap) : Ext rho H w rho H w' :=
  ⟨Nat.le_refl _, Nat.le_refl _, by rw [h]; exact Nat.le_refl _, fun _ _ _ => ⟨rfl, rfl⟩, fun _ _ _ h => h, fun _ _ h _ => h, fun _ _ h => h, fun b c hb h => absurd (hd b c h) (by omega), fun _ _ _ => by rw [h], fun b hb => ⟨hb, rfl, fun _ _ => by rw [h]⟩, fun c cs e fr hc => ⟨cs, e, fr, by rw [h]; exact hc, rfl⟩⟩

section
variable {P : Program} {nt : Nat} {ops : Array Oper} {iso pur : Nat → Bool} {E : Nat → Env} {Hh : Nat → Heap} {Vv : Nat → V} {B : Nat → Option Nat}

/-- It must stand where the text has it. -/
def Hard (iso pur : Nat → Bool) (i : Nat) : Prop := iso i = true ∧ pur i = false

/-- What is known of the heaps of the text's order. -/
structure Heaps (n : Nat) (iso pur : Nat → Bool) (Hh : Nat → Heap) : Prop where
  wn : ∀ i, i ≤ n → (Hh i).wlo ≤ (Hh i).n
  out : ∀ i, i ≤ n → ∀ b, (Hh i).n ≤ b → (Hh i).get b = .dead
  le : ∀ i, i < n → (Hh i).n ≤ (Hh (i + 1)).n ∧ (Hh (i + 1)).wlo ≤ (Hh i).wlo
  mild : ∀ i, i < n → ¬ Hard iso pur i → Part (Hh i) (Hh (i + 1)) ∧ (Hh (i + 1)).wlo = (Hh i).wlo

/-- The operations in the text's order, in a world. -/
theorem text_run (hst : ∀ j o, ops[j]? = some o → StepOK P nt ops (iso j) (pur j) (B j) o (E j) (Hh j) (Vv j) (E (j + 1)) (Hh (j + 1))) {base : Nat} {w0 : World} {rho : Nat → Option Nat} {w : World} {a : Act} (hp : PR P base w0 rho (Hh 0) w) (ht : TR (mu rho (Hh 0) w) nt (E 0) a.tmps) :
    ∀ i, i ≤ ops.size → (∃ (rho' : Nat → Option Nat) (w' : World) (a' : Act), PR P base w0 rho' (Hh i) w' ∧ TR (mu rho' (Hh i) w') nt (E i) a'.tmps) ∧ ∀ j, j < i → (Hh j).n ≤ (Hh (j + 1)).n ∧ (Hh (j + 1)).wlo ≤ (Hh j).wlo ∧ (¬ Hard iso pur j → Part (Hh j) (Hh (j + 1)) ∧ (Hh (j + 1)).wlo = (Hh j).wlo) := by
  intro i
  induction i with
  | zero => exact fun _ => ⟨⟨rho, w, a, hp, ht⟩, fun j hj => by omega⟩
  | succ i ih =>
    intro hi
    obtain ⟨⟨rho1, w1, a1, p1, t1⟩, h1⟩ := ih (by omega)
    have hlt : i < ops.size := by omega
    have ho : ops[i]? = some ops[i] := Array.getElem?_eq_getElem hlt
    obtain ⟨d, hd, he, hs⟩ := hst i _ ho
    have key : (∃ (rho' : Nat → Option Nat) (w' : World) (a' : Act), PR P base w0 rho' (Hh (i + 1)) w' ∧ TR (mu rho' (Hh (i + 1)) w') nt (E (i + 1)) a'.tmps) ∧ (Hh i).n ≤ (Hh (i + 1)).n ∧ (Hh (i + 1)).wlo ≤ (Hh i).wlo ∧ (¬ Hard iso pur i → Part (Hh i) (Hh (i + 1)) ∧ (Hh (i + 1)).wlo = (Hh i).wlo) := by
      have hself : Part (Hh i) (Hh i) := ⟨Nat.le_refl _, fun _ _ => rfl, p1.out⟩
      rcases hs with ⟨_, hv, hH⟩ | ⟨_, _, hH, hop⟩ | ⟨_, hpu, his, hop⟩ | ⟨_, _, _, H1, H1', g1, g2, g3, hop, g4, g5, g6, g7⟩
      · rw [hH, he, hv]
        exact ⟨⟨rho1, w1, a1.put (ops[i]).dst undef, p1, put_ok t1 hd vr_undef⟩, Nat.le_refl _, Nat.le_refl _, fun _ => ⟨hself, rfl⟩⟩
      · obtain ⟨a2, w2, cv, rfl, rho2, v2, p2, x2⟩ := wpIn_some (hop (Hh i) (fun _ _ => rfl) none base w0 rho1 w1 a1 p1 (t1.or _))
        rw [hH, he]
        exact ⟨⟨rho2, w2, _, p2, put_ok (t1.mono x2.mu) hd v2⟩, Nat.le_refl _, Nat.le_refl _, fun _ => ⟨hself, rfl⟩⟩
      · obtain ⟨a2, w2, cv, rfl, rho2, v2, p2, x2⟩ := wpIn_some (hop none base w0 rho1 w1 a1 p1 (t1.or _))
        rw [he]
        exact ⟨⟨rho2, w2, _, p2, put_ok (t1.mono x2.mu) hd v2⟩, x2.n, x2.wlo, fun hn => absurd ⟨his, hpu⟩ hn⟩
      · have p1' : PR P base w0 rho1 H1 w1 := p1.remark g1 g2 (by omega)
        have m1 : (mu rho1 (Hh i) w1).le (mu rho1 H1 w1) := ⟨fun b c ⟨h1, h2⟩ => ⟨by omega, fun ha => h2 (by rw [← g2]; exact ha)⟩, fun _ _ h => h⟩
        obtain ⟨a2, w2, cv, rfl, rho2, v2, p2, x2⟩ := wpIn_some (hop none base w0 rho1 w1 a1 p1' ((t1.mono m1).or _))
        have hn : (Hh i).n ≤ (Hh (i + 1)).n := by have := x2.n; omega
        have p3 : PR P base w0 rho2 (Hh (i + 1)) w2 := p2.remark g5 g6 (by have := p1.wn; omega)
        have m3 : (mu rho2 H1' w2).le (mu rho2 (Hh (i + 1)) w2) := ⟨fun b c ⟨h1, h2⟩ => ⟨by omega, fun ha => h2 (by rw [← g6]; exact ha)⟩, fun _ _ h => h⟩
        rw [he]
        refine ⟨⟨rho2, w2, _, p3, put_ok ((t1.mono m1).mono (M.le_trans x2.mu m3)) hd (VR.mono m3 _ _ v2)⟩, hn, by omega, fun _ => ⟨⟨hn, fun b hb => ?_, p1.out⟩, g7⟩⟩
        rw [g6, (x2.keep b (by omega) (by omega)).1, g2]
    refine ⟨key.1, fun j hj => ?_⟩
    by_cases hji : j = i
    · subst hji; exact key.2
    · exact h1 j (by omega)

theorem bat {n : Nat} (h : Heaps n iso pur Hh) : ∀ T, T ≤ n → ∀ k, k ≤ T → (∀ j, k ≤ j → j < T → ¬ Hard iso pur j) → Part (Hh k) (Hh T) ∧ (Hh T).wlo = (Hh k).wlo := by
  intro T
  induction T with
  | zero =>
    intro hT k hk _
    have : k = 0 := by omega
    subst this
    exact ⟨⟨Nat.le_refl _, fun _ _ => rfl, h.out 0 hT⟩, rfl⟩
  | succ T ih =>
    intro hT k hk hj
    by_cases hkT : k = T + 1
    · subst hkT; exact ⟨⟨Nat.le_refl _, fun _ _ => rfl, h.out _ hT⟩, rfl⟩
    · obtain ⟨h1, h2⟩ := ih (by omega) k (by omega) fun j h1 h2 => hj j h1 (by omega)
      obtain ⟨h3, h4⟩ := h.mild T (by omega) (hj T (by omega) (by omega))
      exact ⟨h1.trans h3, h4.trans h2⟩
theorem mono_n {n : Nat} (h : Heaps n iso pur Hh) : ∀ T, T ≤ n → ∀ k, k ≤ T → (Hh k).n ≤ (Hh T).n ∧ (Hh T).wlo ≤ (Hh k).wlo := by
  intro T
  induction T with
  | zero => intro hT k hk; have : k = 0 := by omega
            subst this; exact ⟨Nat.le_refl _, Nat.le_refl _⟩
  | succ T ih =>
    intro hT k hk
    by_cases hkT : k = T + 1
    · subst hkT; exact ⟨Nat.le_refl _, Nat.le_refl _⟩
    · obtain ⟨h1, h2⟩ := ih (by omega) k (by omega)
      obtain ⟨h3, h4⟩ := h.le T (by omega)
      exact ⟨by omega, by omega⟩
theorem next_hard (iso pur : Nat → Bool) (n : Nat) : ∀ m T, n - T = m → T ≤ n → ∃ T', T ≤ T' ∧ T' ≤ n ∧ (T' < n → Hard iso pur T') ∧ ∀ j, T ≤ j → j < T' → ¬ Hard iso pur j := by
  intro m
  induction m with
  | zero => intro T h1 h2; exact ⟨T, Nat.le_refl _, h2, fun h => by omega, fun j h3 h4 => by omega⟩
  | succ m ih =>
    intro T h1 h2
    by_cases hh : Hard iso pur T
    · exact ⟨T, Nat.le_refl _, h2, fun _ => hh, fun j h3 h4 => by omega⟩
    · obtain ⟨T', h3, h4, h5, h6⟩ := ih (T + 1) (by omega) (by omega)
      exact ⟨T', by omega, h4, h5, fun j h7 h8 => by
        by_cases hj : j = T
        · subst hj; exact hh
        · exact h6 j (by omega) h8⟩

def dOf (ops : Array Oper) (k : Nat) : Option Slot := (ops[k]?.bind (·.dst)).map slotOf

/-- A state on the way. -/
structure Mid (P : Program) (nt : Nat) (ops : Array Oper) (iso pur : Nat → Bool) (E : Nat → Env) (Hh : Nat → Heap) (Vv : Nat → V) (base : Nat) (w0 : World) (rho0 : Nat → Option Nat) (w00 : World) (ds : List Deferred) (listed : Array Bool) (a : Act) (w : World) (T : Nat) (rho : Nat → Option Nat) : Prop where
  size : listed.size = ops.size
  closed : Closed ops listed
  le : T ≤ ops.size
  hard : T < ops.size → Hard iso pur T
  not : ¬ Been listed T
  been : ∀ i, i < T → Hard iso pur i → Been listed i
  pr : PR P base w0 rho (Hh T) w
  ext : Ext rho0 (Hh 0) w00 rho (Hh T) w
  tr : TR (mu rho (Hh T) w) nt (envS (dOf ops) Vv (E 0) (fun k => listed.getD k false) ops.size) a.tmps
  defers : a.defers = ds
  bound : ∀ b c, rho b = some c → ∀ k, k < T → ¬ Been listed k → ¬ ((Hh k).n ≤ b ∧ b < (Hh (k + 1)).n)
  kn : ∀ b c, rho b = some c → ∀ k, k ≤ T → (∀ j, k ≤ j → j < T → ¬ Hard iso pur j) → b < (Hh k).n → Kn P (Hh k) b

section walk
variable {base : Nat} {w0 : World} {rho0 : Nat → Option Nat} {w00 : World} {ds : List Deferred} {rd : Option Nat} {Q : Exit → Act → World → Prop}
  (hst : ∀ j o, ops[j]? = some o → StepOK P nt ops (iso j) (pur j) (B j) o (E j) (Hh j) (Vv j) (E (j + 1)) (Hh (j + 1)))
  (hE : Edges ops) (hap : apartOK ops (Region.before ops) = true)
  (hiso : ∀ i j, Hard iso pur i → i ≠ j → pur j = false → j < ops.size → ((Region.before ops).getD i 0).testBit j = true ∨ ((Region.before ops).getD j 0).testBit i = true)
  (hhp : Heaps ops.size iso pur Hh) (hnt : nt ≤ 512) (hd0 : ∀ b c, rho0 b = some c → b < (Hh 0).n) (hc0 : ∀ b c, rho0 b = some c → c < w00.heap.size)
  (hB : ∀ i b, i < ops.size → B i = some b → b < (Hh 0).n)
  (hkp : ∀ i k b, i < ops.size → k < ops.size → B i = some b → Hard iso pur k → ordd (Region.before ops) i k = false → b < (Hh k).n → (Hh (k + 1)).get b = (Hh k).get b)
  (hke : ∀ i, i < ops.size → ∀ t, t < nt → ∃ m c, VR m (pget (slotOf t) (E i)) c ∧ ∀ b c', m.b b c' → b < (Hh i).n)
  (hQ : ∀ a' w' rho', a'.defers = ds → PR P base w0 rho' (Hh ops.size) w' → TR (mu rho' (Hh ops.size) w') nt (E ops.size) a'.tmps → Ext rho0 (Hh 0) w00 rho' (Hh ops.size) w' → Q .normal a' w')

include hst in
theorem e_step : ∀ k, k < ops.size → E (k + 1) = psetD (dOf ops k) (Vv k) (E k) := fun k hk => by
  have ho : ops[k]? = some ops[k] := Array.getElem?_eq_getElem hk
  obtain ⟨d, hd, he, _⟩ := hst k _ ho
  rw [he, (dstOf_eq hd).1]
  simp [dOf, ho]
include hst hnt in
theorem dOf_inj {k t : Nat} (hk : k < ops.size) (ht : t < nt) (h : dOf ops k = some (slotOf t)) : ∃ o, ops[k]? = some o ∧ o.dst = some t := by
  have ho : ops[k]? = some ops[k] := Array.getElem?_eq_getElem hk
  obtain ⟨d, hd, he, _⟩ := hst k _ ho
  obtain ⟨h1, h2⟩ := dstOf_eq hd
  refine ⟨_, ho, ?_⟩
  unfold dOf at h
  rw [ho, Option.bind_some, Option.map_eq_some_iff] at h
  obtain ⟨t', h3, h4⟩ := h
  have := h2 t' h3
  rw [h3, slotOf_inj (Nat.lt_of_lt_of_le this hnt) (Nat.lt_of_lt_of_le ht hnt) h4]

include hst hE hap hnt in
theorem view {listed : Array Bool} {i : Nat} {o : Oper} (hC : Closed ops listed) (ho : ops[i]? = some o) (hi : ¬ Been listed i) (hr : ∀ e ∈ o.after.toList, Region.binds .any e = true → Been listed e.on) {t : Nat} (ht : t ∈ namesOf ops o) (hlt : t < nt) :
    pget (slotOf t) (envS (dOf ops) Vv (E 0) (fun k => listed.getD k false) ops.size) = pget (slotOf t) (E i) := by
  have hin : i < ops.size := (Array.getElem?_eq_some_iff.1 ho).1
  refine envS_at (Nat.le_of_lt hin) (e_step hst) fun k hk hd => ?_
  obtain ⟨ok, hok, hdk⟩ := dOf_inj hst hnt hk hlt hd
  by_cases hki : k = i
  · subst hki
    exact ⟨fun h => absurd h hi, fun h => by omega⟩
  · have h1 := apart_of hap hok ho hki hdk ht
    split at h1
    · rename_i h2
      exact ⟨fun _ => h2, fun _ => before_been hE hC i k (Or.inr fun o' ho' => by rw [ho] at ho'; cases ho'; exact hr) h1⟩
    · rename_i h2
      exact ⟨fun hs => absurd (before_been hE hC k i (Or.inl hs) h1) hi, fun h => absurd h h2⟩
include hst hE hap hnt in
theorem tmps_put {listed : Array Bool} {i : Nat} {o : Oper} (hsz : listed.size = ops.size) (hC : Closed ops listed) (ho : ops[i]? = some o) (hi : ¬ Been listed i) {m : M} {a : Act} {cv : Value} (ht : TR m nt (envS (dOf ops) Vv (E 0) (fun k => listed.getD k false) ops.size) a.tmps) (hv : VR m (Vv i) cv) :
    TR m nt (envS (dOf ops) Vv (E 0) (fun k => (listed.setIfInBounds i true).getD k false) ops.size) (a.put o.dst cv).tmps := by
  have hin : i < ops.size := (Array.getElem?_eq_some_iff.1 ho).1
  obtain ⟨d, hd, _⟩ := hst i _ ho
  have hdo : dOf ops i = d := by rw [(dstOf_eq hd).1]; simp [dOf, ho]
  refine (put_ok ht hd hv).congr fun s => ?_
  rw [← hdo]
  refine envS_put hin (by simpa [Been] using hi) (fun k => been_set (by omega)) (fun k hk hik hs s' h1 h2 => ?_) s
  unfold dOf at h1 h2
  have hok : ops[k]? = some ops[k] := Array.getElem?_eq_getElem hk
  rw [hok, Option.bind_some, Option.map_eq_some_iff] at h1
  rw [ho, Option.bind_some, Option.map_eq_some_iff] at h2
  obtain ⟨tk, h3, h4⟩ := h1
  obtain ⟨ti, h5, h6⟩ := h2
  obtain ⟨dk, hdk, _⟩ := hst k _ hok
  have hti := (dstOf_eq hd).2 ti h5
  have htk := (dstOf_eq hdk).2 tk h3
  have : ti = tk := slotOf_inj (Nat.lt_of_lt_of_le hti hnt) (Nat.lt_of_lt_of_le htk hnt) (h6.trans h4.symm)
  subst this
  have h7 := apart_of hap ho hok (by omega) h5 (show ti ∈ namesOf ops ops[k] from List.mem_append_left _ (by simp [h3]))
  rw [if_pos hik] at h7
  exact hi (before_been hE hC k i (Or.inl hs) h7)

theorem closed_set {listed : Array Bool} {i : Nat} {o : Oper} (hi : i < listed.size) (hC : Closed ops listed) (ho : ops[i]? = some o) (hr : ∀ e ∈ o.after.toList, Region.binds .any e = true → Been listed e.on) : Closed ops (listed.setIfInBounds i true) := fun j hj o' ho' e he hb => by
  rw [been_set hi] at hj ⊢
  rcases hj with rfl | hj
  · rw [ho] at ho'; cases ho'
    exact Or.inr (hr e he hb)
  · exact Or.inr (hC j hj o' ho' e he hb)

theorem count_set {l : List Bool} {i : Nat} (hi : l[i]? = some false) : (l.set i true).count false + 1 = l.count false := by
  have hlt : i < l.length := (List.getElem?_eq_some_iff.1 hi).1
  have hv : l[i] = false := (List.getElem?_eq_some_iff.1 hi).2
  rw [List.count_set hlt, hv]
  have : 0 < l.count false := List.count_pos_iff.2 (by rw [← hv]; exact List.getElem_mem hlt)
  simp
  omega

include hst hE hap hiso hhp hnt hd0 hc0 hke hB hkp hQ in
theorem walk : ∀ (fuel : Nat) (listed : Array Bool) (a : Act) (w : World) (T : Nat) (rho : Nat → Option Nat), Mid P nt ops iso pur E Hh Vv base w0 rho0 w00 ds listed a w T rho → listed.toList.count false = fuel → wpAnyIn (WF rd) 0 P .any ops Q fuel listed a w := by
  -- at the end
  have fin : ∀ (listed : Array Bool) (a : Act) (w : World) (T : Nat) (rho : Nat → Option Nat), Mid P nt ops iso pur E Hh Vv base w0 rho0 w00 ds listed a w T rho → (∀ i, i < ops.size → Been listed i) → Q .normal a w := fun listed a w T rho hM hall => by
    have hT : T = ops.size := by
      rcases Nat.lt_or_ge T ops.size with h | h
      · exact absurd (hall T h) hM.not
      · have := hM.le; omega
    subst hT
    refine hQ a w rho hM.defers hM.pr (hM.tr.congr fun s => ?_) hM.ext
    exact (envS_at (Nat.le_refl _) (e_step hst) fun k hk _ => ⟨fun _ => hk, fun _ => hall k hk⟩).symm
  have hready : ∀ (listed : Array Bool), Region.ready .any ops listed = [] → listed.size = ops.size → ∀ i, i < ops.size → Been listed i := fun listed hr hsz i => by
    induction i using Nat.strongRecOn with
    | _ i ih =>
      intro hi
      by_cases hb : Been listed i
      · exact hb
      · have ho : ops[i]? = some ops[i] := Array.getElem?_eq_getElem hi
        have hmem : i ∈ Region.ready .any ops listed := mem_ready.2 ⟨by
          have hex : listed[i]? = some listed[i] := Array.getElem?_eq_getElem (by omega)
          unfold Been at hb
          rw [Array.getD_eq_getD_getElem?, hex] at hb ⊢
          simpa using hb, _, ho, fun e he hbd => ih e.on (hE i _ ho e (by simpa using he) hbd) (by have := hE i _ ho e (by simpa using he) hbd; omega)⟩
        rw [hr] at hmem
        cases hmem
  intro fuel
  induction fuel with
  | zero =>
    intro listed a w T rho hM hc
    have hall : ∀ i, i < ops.size → Been listed i := fun i hi => by
      have hlt : i < listed.size := by rw [hM.size]; exact hi
      have hex : listed[i]? = some listed[i] := Array.getElem?_eq_getElem hlt
      unfold Been
      rw [Array.getD_eq_getD_getElem?, hex, Option.getD_some]
      cases hv : listed[i] with
      | true => rfl
      | false =>
        have : false ∈ listed.toList := by rw [← hv]; simp
        rw [List.count_eq_zero] at hc
        exact absurd this hc
    refine ⟨?_, fin listed a w T rho hM hall⟩
    refine List.eq_nil_iff_forall_not_mem.2 fun i hi => ?_
    obtain ⟨h1, o, ho, _⟩ := mem_ready.1 hi
    have hb := hall i (Array.getElem?_eq_some_iff.1 ho).1
    have hlt : i < listed.size := by rw [hM.size]; exact (Array.getElem?_eq_some_iff.1 ho).1
    have hex : listed[i]? = some listed[i] := Array.getElem?_eq_getElem hlt
    unfold Been at hb
    rw [Array.getD_eq_getD_getElem?, hex, Option.getD_some] at hb h1
    rw [hb] at h1
    cases h1
  | succ fuel ih =>
    intro listed a w T rho hM hc
    refine ⟨fun hr => fin listed a w T rho hM (hready listed hr hM.size), fun i hi => ?_⟩
    obtain ⟨h1, o, ho, hr0⟩ := mem_ready.1 hi
    have hin : i < ops.size := (Array.getElem?_eq_some_iff.1 ho).1
    have hil : i < listed.size := by rw [hM.size]; exact hin
    have hex : listed[i]? = some listed[i] := Array.getElem?_eq_getElem hil
    have hv : listed[i] = false := by rw [Array.getD_eq_getD_getElem?, hex, Option.getD_some] at h1; exact h1
    have hnb : ¬ Been listed i := by unfold Been; rw [Array.getD_eq_getD_getElem?, hex, Option.getD_some, hv]; simp
    have hr : ∀ e ∈ o.after.toList, Region.binds .any e = true → Been listed e.on := fun e he hb => hr0 e (by simpa using he) hb
    have hc' : (listed.setIfInBounds i true).toList.count false = fuel := by
      have := count_set (l := listed.toList) (i := i) (by simpa [hv] using hex)
      rw [Array.toList_setIfInBounds]
      omega
    have hsz' : (listed.setIfInBounds i true).size = ops.size := by simpa using hM.size
    have hC' := closed_set hil hM.closed ho hr
    have hview : ∀ t, t ∈ o.looksAt ops → t < nt → pget (slotOf t) (envS (dOf ops) Vv (E 0) (fun k => listed.getD k false) ops.size) = pget (slotOf t) (E i) := fun t ht hlt => view hst hE hap hnt hM.closed ho hnb hr (List.mem_append_right _ ht) hlt
    have hgt : GT nt (mu rho (Hh T) w) (E i) ops o a.tmps := gt_at hM.tr hview
    have hor : OR (mu rho (Hh T) w) nt (E i) a o := or_at hM.tr hview
    have hput : ∀ {m : M} {cv : Value}, TR m nt (envS (dOf ops) Vv (E 0) (fun k => listed.getD k false) ops.size) a.tmps → VR m (Vv i) cv → TR m nt (envS (dOf ops) Vv (E 0) (fun k => (listed.setIfInBounds i true).getD k false) ops.size) (a.put o.dst cv).tmps := fun ht hv => tmps_put hst hE hap hnt hM.size hM.closed ho hnb ht hv
    have hbi : ∀ k, ((Region.before ops).getD i 0).testBit k = true → Been listed k := fun k hk => before_been hE hM.closed i k (Or.inr fun o' ho' => by rw [ho] at ho'; cases ho'; exact hr) hk
    have hTn : ∀ j, j ≠ T → pur j = false → j < ops.size → T < ops.size → ¬ Been listed j → (∀ k, ((Region.before ops).getD j 0).testBit k = true → Been listed k) → j < T := fun j h2 h3 h4 h5 h6 h7 => by
      rcases hiso T j (hM.hard h5) (Ne.symm h2) h3 h4 with h8 | h8
      · exact before_lt hE T j h8
      · exact absurd (h7 T h8) hM.not
    obtain ⟨d, hd, he, hs⟩ := hst i o ho
    unfold wpOpIn
    simp only [ho]
    by_cases hh : Hard iso pur i
    · -- an operation that stands where the text has it
      have hiT : i = T := by
        by_cases hiT : i = T
        · exact hiT
        · exfalso
          have hlt : i < T := by
            rcases Nat.lt_or_ge T ops.size with h | h
            · exact hTn i hiT hh.2 hin h hnb hbi
            · omega
          exact hnb (hM.been i hlt hh)
      subst hiT
      have adv : ∀ (rho' : Nat → Option Nat) (w' : World) (cv : Value), PR P base w0 rho' (Hh (i + 1)) w' → Ext rho (Hh i) w rho' (Hh (i + 1)) w' → VR (mu rho' (Hh (i + 1)) w') (Vv i) cv → wpAnyIn (WF rd) 0 P .any ops Q fuel (listed.setIfInBounds i true) (a.put o.dst cv) w' := fun rho' w' cv p1 x1 v1 => by
        obtain ⟨T', t1, t2, t3, t4⟩ := next_hard iso pur ops.size _ (i + 1) rfl hin
        obtain ⟨b1, b2⟩ := bat hhp T' t2 (i + 1) t1 t4
        obtain ⟨p2, m2⟩ := p1.grow b1 (hhp.wn T' t2) (hhp.out T' t2)
        have x2 : Ext rho' (Hh (i + 1)) w' rho' (Hh T') w' := ⟨b1.n, by omega, Nat.le_refl _, fun b hb _ => ⟨b1.get b hb, rfl⟩, fun _ _ _ h => h, fun _ _ h _ => h, fun b hb ha => by rw [← b1.get b hb]; exact ha, fun b c hb hr => absurd (p1.lt b c hr) (by omega), fun _ _ _ => rfl, fun b hb => ⟨by
          have hbn : b < (Hh (i + 1)).n := by
            rcases Nat.lt_or_ge b (Hh (i + 1)).n with h | h
            · exact h
            · rw [b1.out b h] at hb; cases hb
          rw [b1.get b hbn]; exact hb, rfl, fun _ _ => rfl⟩, fun c cs e fr hc => ⟨cs, e, fr, hc, rfl⟩⟩
        have x3 := Ext.trans hd0 hM.ext (Ext.trans hM.pr.lt x1 x2)
        refine ih _ _ _ T' rho' ⟨hsz', hC', t2, t3, fun hb => ?_, fun j hj hjh => ?_, p2, x3, hput (hM.tr.mono (M.le_trans x1.mu m2)) (VR.mono m2 _ _ v1), (put_defers _ _ _).trans hM.defers, fun b c hrb k hk hnk => ?_, fun b c hrb k hk hkj hbk => ?_⟩ hc'
        · rw [been_set hil] at hb
          rcases hb with hb | hb
          · omega
          · rcases Nat.lt_or_ge T' ops.size with h | h
            · have hp := t3 h
              rcases hiso T' i hp (by omega) hh.2 hin with h8 | h8
              · exact hnb (before_been hE hM.closed T' i (Or.inl hb) h8)
              · have := before_lt hE i T' h8; omega
            · unfold Been at hb
              rw [Array.getD_eq_getD_getElem?, Array.getElem?_eq_none (by rw [hM.size]; exact h)] at hb
              simp at hb
        · rw [been_set hil]
          by_cases hji : j = i
          · exact Or.inl hji
          · rcases Nat.lt_or_ge j i with h | h
            · exact Or.inr (hM.been j h hjh)
            · exact absurd hjh (t4 j (by omega) hj)
        · rw [been_set hil] at hnk
          have hki : k ≠ i := fun h => hnk (Or.inl h)
          rintro ⟨g1, g2⟩
          have hbd := p1.lt b c hrb
          rcases Nat.lt_or_ge k i with h | h
          · have hn1 := (mono_n hhp i hM.le (k + 1) (by omega)).1
            exact hM.bound b c (x1.old b c (by omega) hrb) k h (fun h => hnk (Or.inr h)) ⟨g1, g2⟩
          · have hn1 := (mono_n hhp k (by omega) (i + 1) (by omega)).1
            omega
        · rcases Nat.lt_or_ge i k with h | h
          · have hbd := p1.lt b c hrb
            exact (p1.kn hrb).part (bat hhp k (by omega) (i + 1) h fun j h1 h2 => t4 j h1 (by omega)).1 hbd
          · exact absurd hh (hkj i h (by omega))
      rcases hs with ⟨hw, hv, hH⟩ | ⟨_, hpu, _⟩ | ⟨hw, hpu, his, hop⟩ | ⟨_, _, his, _⟩
      · simp only [hw _ _ hgt, Bool.false_eq_true, if_false]
        refine ⟨fun _ _ => trivial, adv rho w undef (by rw [hH]; exact hM.pr) (by rw [hH]; exact Ext.refl hM.pr.lt) (by rw [hv]; exact vr_undef)⟩
      · rw [hh.2] at hpu; cases hpu
      · simp only [hw _ _ hgt, if_true]
        refine wpIn_lift (hop rd base w0 rho w a hM.pr hor) fun a1 w1 hk => ?_
        obtain ⟨cv, rfl, rho1, v1, p1, x1⟩ := hk
        exact adv rho1 w1 cv p1 x1 v1
      · rw [hh.1] at his; cases his
    · -- any other
      have hiT : i ≠ T := fun h => by subst h; exact hh (hM.hard hin)
      have adv : ∀ (rho' : Nat → Option Nat) (w' : World) (cv : Value), PR P base w0 rho' (Hh T) w' → Ext rho0 (Hh 0) w00 rho' (Hh T) w' → (mu rho (Hh T) w).le (mu rho' (Hh T) w') → VR (mu rho' (Hh T) w') (Vv i) cv → (∀ b c, rho' b = some c → rho b = some c ∨ (i < T ∧ (∀ j, i ≤ j → j < T → ¬ Hard iso pur j) ∧ (Hh i).n ≤ b ∧ b < (Hh (i + 1)).n ∧ Kn P (Hh (i + 1)) b)) → wpAnyIn (WF rd) 0 P .any ops Q fuel (listed.setIfInBounds i true) (a.put o.dst cv) w' := fun rho' w' cv p1 x1 m1 v1 hb => by
        refine ih _ _ _ T rho' ⟨hsz', hC', hM.le, hM.hard, fun h => ?_, fun j hj hjh => ?_, p1, x1, hput (hM.tr.mono m1) v1, (put_defers _ _ _).trans hM.defers, fun b c hrb k hk hnk => ?_, fun b c hrb k hk hkj hbk => ?_⟩ hc'
        · rw [been_set hil] at h
          exact h.elim (fun h => hiT h.symm) hM.not
        · rw [been_set hil]; exact Or.inr (hM.been j hj hjh)
        · rw [been_set hil] at hnk
          rcases hb b c hrb with h | ⟨h1, _, h2, h3, _⟩
          · exact hM.bound b c h k hk fun h => hnk (Or.inr h)
          · rintro ⟨g1, g2⟩
            have hki : k ≠ i := fun h => hnk (Or.inl h)
            have hTs := hM.le
            rcases Nat.lt_or_ge k i with h | h
            · have := (mono_n hhp i (by omega) (k + 1) (by omega)).1; omega
            · have := (mono_n hhp k (by omega) (i + 1) (by omega)).1; omega
        · rcases hb b c hrb with h | ⟨h1, h0, h2, h3, h4⟩
          · exact hM.kn b c h k hk hkj hbk
          · have hTs := hM.le
            have hik : i + 1 ≤ k := by
              rcases Nat.lt_or_ge i k with h | h
              · exact h
              · have := (mono_n hhp i (by omega) k h).1; omega
            exact h4.part (bat hhp k (by omega) (i + 1) hik fun j g1 g2 => h0 j (by omega) (by omega)).1 h3
      rcases hs with ⟨hw, hv, hH⟩ | ⟨hw, hpu, hH, hop⟩ | ⟨hw, hpu, his, hop⟩ | ⟨hw, hpu, his, H1, H1', g1, g2, g3, hop, g4, g5, g6, g7⟩
      · simp only [hw _ _ hgt, Bool.false_eq_true, if_false]
        exact ⟨fun _ _ => trivial, adv rho w undef hM.pr hM.ext ⟨fun _ _ h => h, fun _ _ h => h⟩ (by rw [hv]; exact vr_undef) fun b c h => Or.inl h⟩
      · simp only [hw _ _ hgt, if_true]
        have hget : ∀ b, B i = some b → ∀ hi lo, lo ≤ hi → hi ≤ ops.size → (∀ k, lo ≤ k → k < hi → Hard iso pur k → ordd (Region.before ops) i k = false) → (Hh hi).get b = (Hh lo).get b := fun b hb hi => by
          induction hi with
          | zero =>
            intro lo h1 _ _
            rw [show lo = 0 by omega]
          | succ k ihk =>
            intro lo h1 h2 h3
            by_cases hlk : lo = k + 1
            · rw [hlk]
            · have hbn : b < (Hh k).n := by
                have := hB i b hin hb
                have := (mono_n hhp k (by omega) 0 (Nat.zero_le _)).1
                omega
              rw [← ihk lo (by omega) (by omega) fun q g1 g2 => h3 q g1 (by omega)]
              by_cases hhk : Hard iso pur k
              · exact hkp i k b hin (by omega) hb hhk (h3 k (by omega) (by omega) hhk) hbn
              · exact (hhp.mild k (by omega) hhk).1.get b hbn
        have hok : ∀ b, B i = some b → (Hh T).get b = (Hh i).get b := fun b hb => by
          rcases Nat.lt_or_ge i T with hlt | hge
          · refine hget b hb T i (by omega) hM.le fun k g1 g2 g3 => ?_
            have hki : k ≠ i := fun h => by subst h; rw [g3.2] at hpu; cases hpu
            have hbk := hM.been k g2 g3
            unfold ordd
            rw [Bool.or_eq_false_iff]
            refine ⟨?_, ?_⟩
            · cases hx : ((Region.before ops).getD i 0).testBit k with
              | false => rfl
              | true => have := before_lt hE i k hx; omega
            · cases hx : ((Region.before ops).getD k 0).testBit i with
              | false => rfl
              | true => exact absurd (before_been hE hM.closed k i (Or.inl hbk) hx) hnb
          · refine (hget b hb i T hge (by omega) fun k g1 g2 g3 => ?_).symm
            have hnk : ¬ Been listed k := fun hbk => by
              by_cases hkT : k = T
              · subst hkT; exact hM.not hbk
              · rcases hiso T k (hM.hard (by omega)) (Ne.symm hkT) g3.2 (by omega) with h8 | h8
                · have := before_lt hE T k h8; omega
                · exact hM.not (before_been hE hM.closed k T (Or.inl hbk) h8)
            unfold ordd
            rw [Bool.or_eq_false_iff]
            refine ⟨?_, ?_⟩
            · cases hx : ((Region.before ops).getD i 0).testBit k with
              | false => rfl
              | true => exact absurd (hbi k hx) hnk
            · cases hx : ((Region.before ops).getD k 0).testBit i with
              | false => rfl
              | true => have := before_lt hE k i hx; omega
        refine wpIn_lift (hop (Hh T) hok rd base w0 rho w a hM.pr hor) fun a1 w1 hk => ?_
        obtain ⟨cv, rfl, rho1, v1, p1, x1⟩ := hk
        exact adv rho1 w1 cv p1 (Ext.trans hd0 hM.ext x1) x1.mu v1 fun b c h => Or.inl (x1.old b c (p1.lt b c h) h)
      · exact absurd ⟨his, hpu⟩ hh
      · simp only [hw _ _ hgt, if_true]
        have hlt : i < T := by
          rcases Nat.lt_or_ge T ops.size with h | h
          · exact hTn i hiT hpu hin h hnb hbi
          · omega
        have hno : ∀ j, i ≤ j → j < T → ¬ Hard iso pur j := fun j h2 h3 hj => by
          have hbj := hM.been j h3 hj
          have hji : j ≠ i := fun h => by subst h; exact hnb hbj
          rcases hiso j i hj hji hpu hin with h8 | h8
          · exact hnb (before_been hE hM.closed j i (Or.inl hbj) h8)
          · have := before_lt hE i j h8; omega
        obtain ⟨b1, b2⟩ := bat hhp T hM.le i (by omega) hno
        obtain ⟨b3, b4⟩ := bat hhp T hM.le (i + 1) hlt fun j h2 h3 => hno j (by omega) h3
        have hnn := (hhp.le i hin).1
        have hp1 : Part H1 (Hh T) := ⟨by rw [g1]; exact b1.n, fun b hb => by rw [g2]; exact b1.get b (by omega), fun b hb => by rw [g2]; exact b1.out b (by omega)⟩
        have pc : PR P base w0 (cutAt H1.n rho) H1 w := hM.pr.part hp1 (by omega) fun b c hrb hb => by
          obtain ⟨m, o', q1, q2⟩ := hM.kn b c hrb i (by omega) hno (by omega)
          exact ⟨m, o', by rw [g2]; exact q1, fun b' c' hm => by rw [g1]; exact q2 b' c' hm⟩
        have oc : OR (mu (cutAt H1.n rho) H1 w) nt (E i) a o := fun x hx ar har => by
          have v2 := hor x hx ar har
          have hkn : ∃ m c, VR m (pgetA ar (E i)) c ∧ ∀ b c', m.b b c' → b < H1.n := by
            unfold compArg at har
            split at har
            · split at har
              · rename_i t ht
                cases har
                obtain ⟨m, c, q1, q2⟩ := hke i hin t ht
                exact ⟨m, c, q1, fun b c' hm => by rw [g1]; exact q2 b c' hm⟩
              · cases har
            · simp only [Option.map_eq_some_iff] at har
              obtain ⟨u, hu, rfl⟩ := har
              exact ⟨⟨fun _ _ => False, fun _ _ => False⟩, _, constV_ok hu, fun _ _ h => h.elim⟩
            · cases har
              exact ⟨⟨fun _ _ => False, fun _ _ => False⟩, _, by simp only [pgetA, VR]; exact ⟨#[], rfl, by simp only [VRs]⟩, fun _ _ h => h.elim⟩
            · cases har
          obtain ⟨m, c, q1, q2⟩ := hkn
          exact VR.mono (meet_cut q2 hp1) _ _ (VR.meet _ _ _ q1 v2)
        refine wpIn_lift (hop rd base w0 _ w a pc oc) fun a1 w1 hk => ?_
        obtain ⟨cv, rfl, rho1, v1, p1, x1⟩ := hk
        rw [g1] at x1
        obtain ⟨p2, m1, m2, e1, e2, e3⟩ := hM.pr.merge (Hi := Hh i) (Hi' := Hh (i + 1)) b1 b3 hnn (fun b c hrb => by
          have := hM.bound b c hrb i hlt hnb
          omega) g1 p1 x1 g4 g5 g6 rfl
        have hN0 := (mono_n hhp i (by omega) 0 (Nat.zero_le _)).1
        refine adv _ w1 cv p2 (hM.ext.after hd0 hc0 (hhp.out 0 (Nat.zero_le _)) hN0 e1 (fun b c h => (e2 b c h).imp id fun h => h.2.2.1) e3 x1.size) m1 (VR.mono m2 _ _ v1) fun b c h => ?_
        rcases e2 b c h with h | ⟨h2, h3, h4, h5⟩
        · exact Or.inl h
        · refine Or.inr ⟨hlt, hno, h2, h3, ?_⟩
          obtain ⟨m, o', q1, q2⟩ := p1.kn h5
          exact ⟨m, o', by rw [g6]; exact q1, fun b' c' hm => by rw [g5]; exact q2 b' c' hm⟩
end walk
end
end Go.Ev
