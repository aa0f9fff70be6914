/- Worlds in which only some of a region's blocks are yet. -/
import Derived.Test.YtaodjhgfhdncgaaGreatDoorEv25
set_option linter.unusedSectionVars false
set_option linter.unusedVariables false
set_option linter.unusedSimpArgs false
namespace Go.Ev
open Go.RowKit

/-- Blocks that m1 knows, as m2 has them. -/
def M.meet (m1 m2 : M) : M := ⟨fun b c => (∃ c', m1.b b c') ∧ m2.b b c, m2.z⟩
mutual
theorem VR.meet {m1 m2 : M} : ∀ (v : V) (c1 c2 : Value), VR m1 v c1 → VR m2 v c2 → VR (m1.meet m2) v c2
  | .int .., _, _, _, h => by simpa only [VR] using h
  | .bool _, _, _, _, h => by simpa only [VR] using h
  | .str .., _, _, _, h => by simpa only [VR] using h
  | .ptr .., _, _, h1, h2 => by simp only [VR] at h1 h2 ⊢; obtain ⟨c, _, h3⟩ := h1; obtain ⟨c', h4, h5⟩ := h2; exact ⟨c', h4, ⟨c, h3⟩, h5⟩
  | .nilp, _, _, _, h => by simpa only [VR] using h
  | .slice .., _, _, h1, h2 => by simp only [VR] at h1 h2 ⊢; obtain ⟨c, _, _, _, h3, _⟩ := h1; obtain ⟨c', cap, o', h4, h5, h6⟩ := h2; exact ⟨c', cap, o', h4, ⟨⟨c, h3⟩, h5⟩, h6⟩
  | .nils, _, _, _, h => by simpa only [VR] using h
  | .map _, _, _, h1, h2 => by simp only [VR] at h1 h2 ⊢; obtain ⟨c, _, h3⟩ := h1; obtain ⟨c', h4, h5⟩ := h2; exact ⟨c', h4, ⟨c, h3⟩, h5⟩
  | .nilm, _, _, _, h => by simpa only [VR] using h
  | .func _ l, _, _, h1, h2 => by simp only [VR] at h1 h2 ⊢; obtain ⟨c, _, h3⟩ := h1; obtain ⟨c', h4, h5⟩ := h2; exact ⟨c', h4, VRs.meet l _ _ h3 h5⟩
  | .yld _, _, _, h1, h2 => by simp only [VR] at h1 h2 ⊢; obtain ⟨c, _, h3⟩ := h1; obtain ⟨c', h4, h5⟩ := h2; exact ⟨c', h4, ⟨c, h3⟩, h5⟩
  | .nilf, _, _, _, h => by simpa only [VR] using h
  | .iface _ x, _, _, h1, h2 => by simp only [VR] at h1 h2 ⊢; obtain ⟨c, _, h3⟩ := h1; obtain ⟨c', h4, h5⟩ := h2; exact ⟨c', h4, VR.meet x _ _ h3 h5⟩
  | .nili, _, _, _, h => by simpa only [VR] using h
  | .agg l, _, _, h1, h2 => by simp only [VR] at h1 h2 ⊢; obtain ⟨c, _, h3⟩ := h1; obtain ⟨c', h4, h5⟩ := h2; exact ⟨c', h4, VRs.meet l _ _ h3 h5⟩
  | .tup l, _, _, h1, h2 => by simp only [VR] at h1 h2 ⊢; obtain ⟨c, _, h3⟩ := h1; obtain ⟨c', h4, h5⟩ := h2; exact ⟨c', h4, VRs.meet l _ _ h3 h5⟩
theorem VRs.meet {m1 m2 : M} : ∀ (l : List V) (c1 c2 : List Value), VRs m1 l c1 → VRs m2 l c2 → VRs (m1.meet m2) l c2
  | [], _, _, _, h => by simpa only [VRs] using h
  | v :: l, _, _, h1, h2 => by
    simp only [VRs] at h1 h2 ⊢
    obtain ⟨c, r, _, h3, h4⟩ := h1
    obtain ⟨c', r', h5, h6, h7⟩ := h2
    exact ⟨c', r', h5, VR.meet v _ _ h3 h6, VRs.meet l _ _ h4 h7⟩
end
theorem BR.meet {P : Program} {m1 m2 : M} {bl : Blk} {o1 o2 : Obj} (h1 : BR P m1 bl o1) (h2 : BR P m2 bl o2) : BR P (m1.meet m2) bl o2 := by
  cases bl with
  | dead => trivial
  | cells l =>
    obtain ⟨c, e, fr, g1, ⟨g2, g3⟩, _⟩ := h1
    obtain ⟨c', e', fr', k1, ⟨k2, k3⟩, k4⟩ := h2
    refine ⟨c', e', fr', k1, ⟨fun i v hi => ?_, k3⟩, k4⟩
    obtain ⟨a1, cv, a2, a3⟩ := g2 i v hi
    obtain ⟨b1, cv', b2, b3⟩ := k2 i v hi
    exact ⟨b1, cv', b2, VR.meet v _ _ a3 b3⟩
  | bytes len n => exact h2
  | map es =>
    obtain ⟨ents, clock, es1, g1, g4, g5, g6, g2, g3⟩ := h1
    obtain ⟨ents', clock', es2, k1, k4, k5, k6, k2, k3⟩ := h2
    have key : ∀ (q : V × V → V) (c1 c2 : List Value), VRs m1 (es1.map q) c1 → VRs m2 (es2.map q) c2 → VRs (m1.meet m2) (es2.map q) c2 := fun q c1 c2 v1 v2 => by
      refine VRs.of_get v2.length fun i v c hi hc => ?_
      rw [List.getElem?_map] at hi
      obtain ⟨p, hp, rfl⟩ := Option.map_eq_some_iff.1 hi
      have hm : q p ∈ es1.map q := List.mem_map.2 ⟨p, (g4.trans k4.symm).mem_iff.2 (List.mem_of_getElem? hp), rfl⟩
      obtain ⟨c', _, hc'⟩ := v1.mem hm
      obtain ⟨c2', e1, e2⟩ := v2.get (i := i) (v := q p) (by rw [List.getElem?_map, hp]; rfl)
      rw [hc] at e1
      cases e1
      exact VR.meet _ _ _ hc' e2
    exact ⟨ents', clock', es2, k1, k4, k5, k6, key _ _ _ g2 k2, key _ _ _ g3 k3⟩
  | mark => exact h2
  | loop st jump e ps as bo =>
    obtain ⟨r, nt, fid, g1, g2, g3, g4, g5, g6, g7⟩ := h1
    obtain ⟨r', nt', fid', k1, k2, k3, k4, k5, k6, k7⟩ := h2
    refine ⟨r', nt', fid', k1, k2, k3, ⟨k4.size, k4.le, fun t v hv => ?_, k4.rest⟩, k5, k6, k7⟩
    have h2 := k4.get t v hv
    have hlt : t < nt' := by rw [← k4.size]; exact (Array.getElem?_eq_some_iff.1 hv).1
    by_cases htn : t < nt
    · have hlt2 : t < r.tmps.size := by rw [g4.size]; exact htn
      have hex : r.tmps[t]? = some r.tmps[t] := Array.getElem?_eq_getElem hlt2
      exact VR.meet _ _ _ (g4.get t _ hex) h2
    · have := k4.le
      rw [g4.rest t (by omega) (by omega)] at h2 ⊢
      simp only [VR] at h2 ⊢
      obtain ⟨cs, h5, h6⟩ := h2
      exact ⟨cs, h5, by simpa only [VRs] using h6⟩

section
variable {P : Program} {base : Nat} {w0 w w' : World} {rho rho' : Nat → Option Nat} {H H1 H' : Heap}

/-- A part of the heap: the blocks below a mark. -/
structure Part (H1 H : Heap) : Prop where
  n : H1.n ≤ H.n
  get : ∀ b, b < H1.n → H.get b = H1.get b
  out : ∀ b, H1.n ≤ b → H1.get b = .dead
theorem Part.trans {H1 H2 H3 : Heap} (h : Part H1 H2) (k : Part H2 H3) : Part H1 H3 :=
  ⟨Nat.le_trans h.n k.n, fun b hb => (k.get b (Nat.lt_of_lt_of_le hb h.n)).trans (h.get b hb), h.out⟩

def cutAt (n : Nat) (rho : Nat → Option Nat) : Nat → Option Nat := fun b => if b < n then rho b else none
theorem cutAt_some {n b c : Nat} (h : cutAt n rho b = some c) : b < n ∧ rho b = some c := by
  unfold cutAt at h
  split at h
  · rename_i hb; exact ⟨hb, h⟩
  · cases h
theorem cutAt_lt {n b : Nat} (h : b < n) : cutAt n rho b = rho b := if_pos h

/-- What a block holds is known of some world, and points to no block above a mark. -/
def Kn (P : Program) (H : Heap) (b : Nat) : Prop := ∃ m o, BR P m (H.get b) o ∧ ∀ b' c', m.b b' c' → b' < H.n
theorem PR.kn (h : PR P base w0 rho H w) {b c : Nat} (hr : rho b = some c) : Kn P H b := by
  obtain ⟨o, h1, h2⟩ := h.blk b c hr
  exact ⟨_, o, h2, fun b' c' hm => hm.1⟩
theorem Kn.part {b : Nat} (h : Kn P H1 b) (hp : Part H1 H) (hb : b < H1.n) : Kn P H b := by
  obtain ⟨m, o, h1, h2⟩ := h
  exact ⟨m, o, by rw [hp.get b hb]; exact h1, fun b' c' hm => Nat.lt_of_lt_of_le (h2 b' c' hm) hp.n⟩

theorem meet_cut {m1 : M} (hm : ∀ b c, m1.b b c → b < H1.n) (hp : Part H1 H) : (m1.meet (mu rho H w)).le (mu (cutAt H1.n rho) H1 w) :=
  ⟨fun b c ⟨⟨c', h1⟩, h2⟩ => ⟨hm _ _ h1, fun ha => by
    rw [cutAt_lt (hm _ _ h1)]
    exact h2.2 (by rw [hp.get b (hm _ _ h1)]; exact ha)⟩, fun _ _ h => h⟩

theorem PR.part (h : PR P base w0 rho H w) (hp : Part H1 H) (hw : H1.wlo ≤ H1.n) (hk : ∀ b c, rho b = some c → b < H1.n → Kn P H1 b) : PR P base w0 (cutAt H1.n rho) H1 w where
  below := h.below
  base_le := h.base_le
  wn := hw
  dom b c hr := by
    obtain ⟨h1, h2⟩ := cutAt_some hr
    obtain ⟨_, h4, h5, h6⟩ := h.dom b c h2
    exact ⟨h1, h4, h5, by rw [← hp.get b h1]; exact h6⟩
  inj b b' c h1 h2 := h.inj b b' c (cutAt_some h1).2 (cutAt_some h2).2
  blk b c hr := by
    obtain ⟨h1, h2⟩ := cutAt_some hr
    obtain ⟨o, h3, h4⟩ := h.blk b c h2
    obtain ⟨m, o', h5, h6⟩ := hk b c h2 h1
    rw [hp.get b h1] at h4
    exact ⟨o, h3, (BR.meet h5 h4).mono (meet_cut h6 hp)⟩
  out b hb := hp.out b hb

/-- The heap with blocks more of which the world has nothing yet. -/
theorem PR.grow (h : PR P base w0 rho H w) (hp : Part H H') (hw : H'.wlo ≤ H'.n) (ho : ∀ b, H'.n ≤ b → H'.get b = .dead) : PR P base w0 rho H' w ∧ (mu rho H w).le (mu rho H' w) := by
  have hm : (mu rho H w).le (mu rho H' w) := ⟨fun b c ⟨h1, h2⟩ => ⟨Nat.lt_of_lt_of_le h1 hp.n, fun ha => h2 (by rw [← hp.get b h1]; exact ha)⟩, fun _ _ h => h⟩
  refine ⟨⟨h.below, h.base_le, hw, fun b c hr => ?_, h.inj, fun b c hr => ?_, ho⟩, hm⟩
  · obtain ⟨h1, h2, h3, h4⟩ := h.dom b c hr
    exact ⟨Nat.lt_of_lt_of_le h1 hp.n, h2, h3, by rw [hp.get b h1]; exact h4⟩
  · obtain ⟨h1, _⟩ := h.dom b c hr
    obtain ⟨o, h3, h4⟩ := h.blk b c hr
    exact ⟨o, h3, by rw [hp.get b h1]; exact h4.mono hm⟩
/-- An operation that writes nothing that was there, in a world that has some of the blocks that come later. -/
theorem PR.merge {Hi Hi' H1' : Heap} (h : PR P base w0 rho H w) (hi : Part Hi H) (hi' : Part Hi' H) (hii : Hi.n ≤ Hi'.n) (hno : ∀ b c, rho b = some c → b < Hi.n ∨ Hi'.n ≤ b)
    (h1n : H1.n = Hi.n) (run : PR P base w0 rho' H1' w') (x : Ext (cutAt Hi.n rho) H1 w rho' H1' w') (hlo : Hi.n ≤ H1'.wlo) (hn' : Hi'.n = H1'.n) (hg' : ∀ b, Hi'.get b = H1'.get b) {rho'' : Nat → Option Nat} (hr'' : rho'' = fun b => if b < Hi'.n then rho' b else rho b) :
    PR P base w0 rho'' H w' ∧ (mu rho H w).le (mu rho'' H w') ∧ (mu rho' H1' w').le (mu rho'' H w') ∧ (∀ b, b < Hi.n → rho'' b = rho b) ∧ (∀ b c, rho'' b = some c → rho b = some c ∨ (Hi.n ≤ b ∧ b < Hi'.n ∧ w.heap.size ≤ c ∧ rho' b = some c)) ∧ ∀ c, c < w.heap.size → w'.heap[c]? = w.heap[c]? := by
  subst hr''
  have k1 : ∀ b, b < Hi.n → rho' b = rho b := fun b hb => by
    rw [(x.keep b (by omega) (by omega)).2, cutAt_lt hb]
  have k2 : ∀ b c, Hi.n ≤ b → rho' b = some c → w.heap.size ≤ c := fun b c hb hr => by
    rcases x.new b c (by omega) hr with h' | ⟨b0, h1, h2⟩
    · exact h'
    · have := (cutAt_some h1).1; omega
  have k3 : ∀ c, c < w.heap.size → w'.heap[c]? = w.heap[c]? := fun c hc => x.fr c hc fun b hb => Nat.lt_of_lt_of_le (cutAt_some hb).1 hlo
  have m1 : (mu rho H w).le (mu (fun b => if b < Hi'.n then rho' b else rho b) H w') := by
    refine ⟨fun b c ⟨h1, h2⟩ => ⟨h1, fun ha => ?_⟩, x.mu.2⟩
    have h3 := h2 ha
    show (if b < Hi'.n then rho' b else rho b) = some c
    rcases hno b c h3 with h4 | h4
    · rw [if_pos (by omega), k1 b h4]; exact h3
    · rw [if_neg (by omega)]; exact h3
  have m2 : (mu rho' H1' w').le (mu (fun b => if b < Hi'.n then rho' b else rho b) H w') := by
    refine ⟨fun b c ⟨h1, h2⟩ => ⟨?_, fun ha => ?_⟩, fun _ _ h => h⟩
    · have := hi'.n; omega
    · have hb : b < Hi'.n := by omega
      show (if b < Hi'.n then rho' b else rho b) = some c
      rw [if_pos hb]
      exact h2 (by rw [← hg' b, ← hi'.get b hb]; exact ha)
  refine ⟨⟨run.below, run.base_le, h.wn, fun b c hr => ?_, fun b b' c hr hr' => ?_, fun b c hr => ?_, h.out⟩, m1, m2, fun b hb => ?_, fun b c hr => ?_, k3⟩
  · split at hr
    · rename_i hb
      obtain ⟨h1, h2, h3, h4⟩ := run.dom b c hr
      exact ⟨Nat.lt_of_lt_of_le hb hi'.n, h2, h3, by rw [hi'.get b hb, hg' b]; exact h4⟩
    · obtain ⟨h1, h2, h3, h4⟩ := h.dom b c hr
      exact ⟨h1, h2, Nat.lt_of_lt_of_le h3 x.size, h4⟩
  · have cross : ∀ b b' c, b < Hi'.n → ¬ b' < Hi'.n → rho' b = some c → rho b' = some c → False := fun b b' c g1 g2 g3 g4 => by
      have hd := h.dom b' c g4
      by_cases hb : b < Hi.n
      · rw [k1 b hb] at g3
        have := h.inj b b' c g3 g4
        omega
      · have := k2 b c (by omega) g3
        omega
    split at hr <;> split at hr'
    · exact run.inj b b' c hr hr'
    · exact (cross b b' c ‹_› ‹_› hr hr').elim
    · exact (cross b' b c ‹_› ‹_› hr' hr).elim
    · exact h.inj b b' c hr hr'
  · split at hr
    · rename_i hb
      obtain ⟨o, h1, h2⟩ := run.blk b c hr
      exact ⟨o, h1, by rw [hi'.get b hb, hg' b]; exact h2.mono m2⟩
    · obtain ⟨o, h1, h2⟩ := h.blk b c hr
      exact ⟨o, (k3 c (h.dom b c hr).2.2.1).trans h1, h2.mono m1⟩
  · show (if b < Hi'.n then rho' b else rho b) = rho b
    rw [if_pos (by omega), k1 b hb]
  · replace hr : (if b < Hi'.n then rho' b else rho b) = some c := hr
    split at hr
    · rename_i hb
      by_cases hb1 : b < Hi.n
      · exact Or.inl ((k1 b hb1).symm.trans hr)
      · exact Or.inr ⟨by omega, hb, k2 b c (by omega) hr, hr⟩
    · exact Or.inl hr

theorem Ext.after {H0 : Heap} {rho0 rho'' : Nat → Option Nat} {w00 : World} {m : Nat} (h : Ext rho0 H0 w00 rho H w) (hd0 : ∀ b c, rho0 b = some c → b < H0.n) (hc0 : ∀ b c, rho0 b = some c → c < w00.heap.size) (ho : ∀ b, H0.n ≤ b → H0.get b = .dead) (hm : H0.n ≤ m) (h1 : ∀ b, b < m → rho'' b = rho b) (h2 : ∀ b c, rho'' b = some c → rho b = some c ∨ w.heap.size ≤ c) (h3 : ∀ c, c < w.heap.size → w'.heap[c]? = w.heap[c]?) (hs : w.heap.size ≤ w'.heap.size) : Ext rho0 H0 w00 rho'' H w' where
  n := h.n
  wlo := h.wlo
  size := Nat.le_trans h.size hs
  keep b hb hw := ⟨(h.keep b hb hw).1, (h1 b (by omega)).trans (h.keep b hb hw).2⟩
  old b c hb hr := h.old b c hb (by rw [← h1 b (by omega)]; exact hr)
  live b c hr ha := by
    have hl := h.live b c hr ha
    rw [h1 b (Nat.lt_of_lt_of_le (hd0 b c hr) hm)]
    exact hl
  nores := h.nores
  new b c hb hr := by
    rcases h2 b c hr with h' | h'
    · exact h.new b c hb h'
    · exact Or.inl (Nat.le_trans h.size h')
  fr c hc hb := (h3 c (Nat.lt_of_lt_of_le hc h.size)).trans (h.fr c hc hb)
  marks b hb := by
    have hbn : b < m := by
      rcases Nat.lt_or_ge b H0.n with h' | h'
      · omega
      · rw [ho b h'] at hb; cases hb
    exact ⟨(h.marks b hb).1, (h1 b hbn).trans (h.marks b hb).2.1, fun c hc => (h3 c (Nat.lt_of_lt_of_le (hc0 b c hc) h.size)).trans ((h.marks b hb).2.2 c hc)⟩
  rows c cs e fr hc := by
    obtain ⟨cs', e', fr', g1, g2⟩ := h.rows c cs e fr hc
    exact ⟨cs', e', fr', (h3 c (Array.getElem?_eq_some_iff.1 g1).1).trans g1, g2⟩
end
end Go.Ev
