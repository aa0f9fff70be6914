/- maps.Clone and maps.Copy, taken by what is known of them. -/
import Derived.Test.YtaodjhgfhdncgaaGreatDoorEv32
set_option linter.unusedVariables false
set_option linter.unusedSimpArgs false
set_option linter.unusedSectionVars false
namespace Go.Ev
open Go.RowKit

noncomputable def nClone (args : List V) (H : Heap) (k : K) : R := List.rec (motive := fun _ => R) (no 0) (fun x r _ => List.rec (motive := fun _ => R)
  (vMap 0 x fun b => hGet H b fun bl => bMap 0 bl fun es => hNew H (.map es) fun n H' => k (.map n) H') (fun _ _ _ => no 0) r) args
structure CloneOK (P : Program) (f : FuncId) : Prop where
  hfn : ∃ fn c, P.funcs[f]? = some fn ∧ fn.body = some c ∧ (fn.name == "runtime.NumGoroutine") = false
  hclone : ∀ (b : Nat) (es : Array MapEntry) (clock : Nat) (w : World), w.heap[b]? = some (.map es clock) → Calls P f #[.map (some b)] w fun e w' => e = .returned (.map (some w.heap.size)) ∧ w' = w.alloc (.map es clock)
theorem CloneOK.nat {P : Program} {f : FuncId} (hj : CloneOK P f) : NatOK P f nClone := fun args H k h => by
  match args, h with
  | [], h => exact (no_ne h).elim
  | x :: y :: r, h => exact (no_ne h).elim
  | [x], h =>
    obtain ⟨b, rfl, h1⟩ := vMap_ok (id := 0) (x := x) (k := fun b => hGet H b fun bl => bMap 0 bl fun es => hNew H (.map es) fun n H' => k (.map n) H') h
    rw [hGet_eq] at h1
    obtain ⟨es, hb, h2⟩ := bMap_ok h1
    obtain ⟨H', h3, hN⟩ := hNew_ok h2
    obtain ⟨fn, c, hf, hbd, hn⟩ := hj.hfn
    refine ⟨_, H', fun base w0 rho w cargs hp hv => ?_, h3⟩
    simp only [VRs] at hv
    obtain ⟨c1, r1, e1, v1, rfl⟩ := hv
    simp only [VR] at v1
    obtain ⟨bs, rfl, hm⟩ := v1
    have hc : cargs = #[.map (some bs)] := by apply Array.ext'; exact e1
    subst hc
    obtain ⟨_, ents, clock, es', g1, gp, go, g2, gs⟩ := hp.map_at hb hm
    refine ⟨run_callFunc hf hbd hn _ _, ?_⟩
    refine CallsIn.mono (callsIn_wide.2 (hj.hclone bs ents clock w g1)) ?_
    rintro e w' ⟨rfl, rfl⟩
    obtain ⟨p1, p2⟩ := hp.alloc (w' := w.alloc (.map ents clock)) (o := .map ents clock) hN.n hN.wlo hN.get hN.oth trivial ⟨rfl, rfl, rfl⟩ (by simp) (World.alloc_heap_new w _) (fun j hj => Below.heap_alloc _ _ _ hj) ⟨ents, clock, es', rfl, gp, go, gs, g2.1, g2.2⟩
    exact ⟨_, rfl, _, by simp only [VR]; exact ⟨_, rfl, by rw [hN.n]; omega, fun _ => by simp⟩, p1, p2⟩

/-! ### maps.Copy -/
noncomputable def copyL (l : List (V × V)) : List (V × V) → (List (V × V) → R) → R := List.rec (motive := fun _ => List (V × V) → (List (V × V) → R) → R) (fun acc k => k acc)
  (fun p _ ih acc k => Prod.rec (motive := fun _ => R) (fun x y => vInt 0 x fun _ _ => setL 0 false acc x y fun acc' => ih acc' k) p) l
noncomputable def nCopyM (args : List V) (H : Heap) (k : K) : R := List.rec (motive := fun _ => R) (no 0) (fun x r _ => List.rec (motive := fun _ => R) (no 0) (fun s r2 _ => List.rec (motive := fun _ => R)
  (vMap 0 x fun a => vMap 0 s fun b => ifB (Nat.beq a b) (no 0) (hGet H a fun ba => bMap 0 ba fun ea => hGet H b fun bb => bMap 0 bb fun eb => copyL eb ea fun res => hSet 0 H a (.map res) fun H' => k (.tup []) H')) (fun _ _ _ => no 0) r2) r) args

/-- Entries laid over others. -/
def Over (l acc r : List (V × V)) : Prop := ∀ p, p ∈ r ↔ p ∈ l ∨ (p.1 ∉ l.map (·.1) ∧ p ∈ acc)

/-- One entry laid. -/
theorem over_one {x y : V} {acc r : List (V × V)} (ha : KeysOK (acc.map (·.1))) (h : (∃ v rest, acc.Perm ((x, v) :: rest) ∧ r.Perm ((x, y) :: rest)) ∨ ((∀ p ∈ acc, p.1 ≠ x) ∧ r.Perm ((x, y) :: acc))) : ∀ p, p ∈ r ↔ p = (x, y) ∨ (p.1 ≠ x ∧ p ∈ acc) := fun p => by
  rcases h with ⟨v, rest, h1, h2⟩ | ⟨h1, h2⟩
  · have h3 : (acc.map (·.1)).Perm (x :: rest.map (·.1)) := h1.map _
    have hn : ((x :: rest.map (·.1)) : List V).Nodup := h3.nodup_iff.1 ha.1
    have hx : ∀ q ∈ rest, q.1 ≠ x := fun q hq e => (List.nodup_cons.1 hn).1 (by rw [← e]; exact List.mem_map.2 ⟨q, hq, rfl⟩)
    rw [h2.mem_iff, h1.mem_iff, List.mem_cons, List.mem_cons]
    constructor
    · rintro (rfl | hp)
      · exact Or.inl rfl
      · exact Or.inr ⟨hx p hp, Or.inr hp⟩
    · rintro (rfl | ⟨hne, rfl | hp⟩)
      · exact Or.inl rfl
      · exact absurd rfl hne
      · exact Or.inr hp
  · rw [h2.mem_iff, List.mem_cons]
    constructor
    · rintro (rfl | hp)
      · exact Or.inl rfl
      · exact Or.inr ⟨h1 p hp, hp⟩
    · rintro (rfl | ⟨_, hp⟩)
      · exact Or.inl rfl
      · exact Or.inr hp
theorem over_step {x y : V} {l acc a1 r : List (V × V)} (hx : x ∉ l.map (·.1)) (h1 : ∀ p, p ∈ a1 ↔ p = (x, y) ∨ (p.1 ≠ x ∧ p ∈ acc)) (h2 : Over l a1 r) : Over ((x, y) :: l) acc r := fun p => by
  rw [h2 p, h1 p, List.mem_cons, List.map_cons, List.mem_cons]
  constructor
  · rintro (hp | ⟨hn, rfl | ⟨hne, hp⟩⟩)
    · exact Or.inl (Or.inr hp)
    · exact Or.inl (Or.inl rfl)
    · exact Or.inr ⟨fun h => h.elim hne hn, hp⟩
  · rintro ((rfl | hp) | ⟨hn, hp⟩)
    · exact Or.inr ⟨hx, Or.inl rfl⟩
    · exact Or.inl hp
    · exact Or.inr ⟨fun h => hn (Or.inr h), Or.inr ⟨fun h => hn (Or.inl h), hp⟩⟩

theorem copyL_ok : ∀ {l acc : List (V × V)} {k : List (V × V) → R}, copyL l acc k = 1 → ∃ r, k r = 1 ∧ (∀ p ∈ l, ∃ q n, p.1 = .int q n) ∧ (KeysOK (acc.map (·.1)) → KeysOK (l.map (·.1)) → KeysOK (r.map (·.1)) ∧ Over l acc r ∧ ∀ p ∈ l, ∀ q ∈ acc, KdK false p.1 q.1)
  | [], acc, k, h => ⟨acc, h, fun p hp => (by cases hp), fun h1 _ => ⟨h1, fun p => by simp, fun p hp => by cases hp⟩⟩
  | (x, y) :: l, acc, k, h => by
    have h' : vInt 0 x (fun _ _ => setL 0 false acc x y fun acc' => copyL l acc' k) = 1 := h
    obtain ⟨q, n, rfl, h1⟩ := vInt_ok h'
    obtain ⟨a1, h2, hkd, h3⟩ := setL_ok h1
    obtain ⟨r, h4, h5, h6⟩ := copyL_ok h2
    refine ⟨r, h4, fun p hp => ?_, fun ha hl => ?_⟩
    · rcases List.mem_cons.1 hp with rfl | hp
      · exact ⟨q, n, rfl⟩
      · exact h5 p hp
    · have hka := kd_all hkd ha
      have ha1 : KeysOK (a1.map (·.1)) := by
        rcases h3 with ⟨v, rest, g1, g2⟩ | ⟨g1, g2⟩
        · exact keys_swap g1 g2 ha
        · exact keys_new g1 g2 (Or.inl ⟨_, _, _, rfl, rfl⟩) hka ha
      have hl' : KeysOK (l.map (·.1)) := KeysOK.tail hl
      obtain ⟨g1, g2, g3⟩ := h6 ha1 hl'
      have hone := over_one ha h3
      have hxn : V.int q n ∉ l.map (·.1) := (List.nodup_cons.1 hl.1).1
      refine ⟨g1, over_step hxn hone g2, fun p hp c hc => ?_⟩
      rcases List.mem_cons.1 hp with rfl | hp
      · exact hka c hc
      · by_cases hcx : c.1 = .int q n
        · have := g3 p hp (.int q n, y) ((hone _).2 (Or.inl rfl))
          rw [hcx]
          exact this
        · exact g3 p hp c ((hone _).2 (Or.inr ⟨hcx, hc⟩))

structure CopyMOK (P : Program) (f : FuncId) : Prop where
  hfn : ∃ fn c, P.funcs[f]? = some fn ∧ fn.body = some c ∧ (fn.name == "runtime.NumGoroutine") = false
  hcopy : ∀ (m : M) (w : World) (bd bs cD cS : Nat) (D S : Array MapEntry) (esd ess : List (V × V)), bd ≠ bs → w.heap[bd]? = some (.map D cD) → w.heap[bs]? = some (.map S cS) → Ents m esd D.toList → Ents m ess S.toList → Stamps D cD → Stamps S cS →
    KeysOK (esd.map (·.1)) → KeysOK (ess.map (·.1)) → (∀ p ∈ ess, ∃ q n, p.1 = .int q n) → (∀ p ∈ ess, ∀ q ∈ esd, KdK false p.1 q.1) →
    Calls P f #[.map (some bd), .map (some bs)] w fun e w' => e = .returned (.tuple #[]) ∧ ∃ D' cD' esd', w'.heap[bd]? = some (.map D' cD') ∧ Ents m esd' D'.toList ∧ Stamps D' cD' ∧ KeysOK (esd'.map (·.1)) ∧ Over ess esd esd' ∧ (∀ j, j < w.heap.size → j ≠ bd → w'.heap[j]? = w.heap[j]?) ∧ w.heap.size ≤ w'.heap.size ∧ Same w w'

theorem nodup_of_keys {es : List (V × V)} (h : KeysOK (es.map (·.1))) : es.Nodup := (List.pairwise_map.1 h.1).imp fun h e => h (by rw [e])

/-- A map that a call has written, and new blocks of the call's own. -/
theorem PR.map_wrote {P : Program} {base : Nat} {w0 w w' : World} {rho : Nat → Option Nat} {H H' : Heap} (hp : PR P base w0 rho H w) {b c : Nat} {es es2 es' : List (V × V)} {ents0 ents : Array MapEntry} {clock0 clock : Nat} (hb : H.get b = .map es) (hr : rho b = some c) (hw : w.heap[c]? = some (.map ents0 clock0)) (hS : SetTo H b (.map es2) H') (hperm : es'.Perm es2) (hok : KeysOK (es2.map (·.1))) (hst : Stamps ents clock) (he : Ents (mu rho H w) es' ents.toList)
    (hn : w'.heap[c]? = some (.map ents clock)) (ho : ∀ j, j < w.heap.size → j ≠ c → w'.heap[j]? = w.heap[j]?) (hsz : w.heap.size ≤ w'.heap.size) (hs : Same w w') :
    PR P base w0 rho H' w' ∧ Ext rho H w rho H' w' := by
  -- first the map, then the new blocks
  obtain ⟨p1, x1⟩ := hp.map_write (ents := ents) (clock := clock) hb hr hw hS hperm hok hst he
  have hlt : c < w.heap.size := (hp.dom b c hr).2.2.1
  have hbel : Below w.heap.size { w with heap := w.heap.setIfInBounds c (.map ents clock) } w' := ⟨hs.os, hs.tape, hs.output, by simpa using hsz, fun j hj => by
    by_cases hjc : j = c
    · subst hjc
      rw [hn]
      simp [hlt]
    · rw [ho j hj hjc]
      simp [Array.getElem?_setIfInBounds_ne (Ne.symm hjc)]⟩
  obtain ⟨p2, x2⟩ := p1.called (by simpa using hbel)
  exact ⟨p2, Ext.trans hp.lt x1 x2⟩

theorem CopyMOK.nat {P : Program} {f : FuncId} (hj : CopyMOK P f) : NatOK P f nCopyM := fun args H k h => by
  match args, h with
  | [], h => exact (no_ne h).elim
  | [x], h => exact (no_ne h).elim
  | x :: y :: z :: r, h => exact (no_ne h).elim
  | [x, s], h =>
    obtain ⟨a, rfl, h1⟩ := vMap_ok (id := 0) (x := x) (k := fun a => vMap 0 s fun b => ifB (Nat.beq a b) (no 0) (hGet H a fun ba => bMap 0 ba fun ea => hGet H b fun bb => bMap 0 bb fun eb => copyL eb ea fun res => hSet 0 H a (.map res) fun H' => k (.tup []) H')) h
    obtain ⟨b, rfl, h2⟩ := vMap_ok h1
    rcases ifB_or h2 with ⟨_, h3⟩ | ⟨hab, h3⟩
    · exact (no_ne h3).elim
    rw [hGet_eq] at h3
    obtain ⟨ea, hea, h4⟩ := bMap_ok h3
    rw [hGet_eq] at h4
    obtain ⟨eb, heb, h5⟩ := bMap_ok h4
    obtain ⟨res, h6, hint, hres⟩ := copyL_ok h5
    obtain ⟨H', h7, hS⟩ := hSet_ok h6
    obtain ⟨fn, c, hf, hbd, hn⟩ := hj.hfn
    have hne : a ≠ b := fun e => by subst e; rw [beq_dec] at hab; simp at hab
    refine ⟨_, H', fun base w0 rho w cargs hp hv => ?_, h7⟩
    simp only [VRs] at hv
    obtain ⟨c1, r1, e1, v1, c2, r2, rfl, v2, rfl⟩ := hv
    simp only [VR] at v1 v2
    obtain ⟨bd, rfl, hm1⟩ := v1
    obtain ⟨bs, rfl, hm2⟩ := v2
    have hc : cargs = #[.map (some bd), .map (some bs)] := by apply Array.ext'; exact e1
    subst hc
    obtain ⟨hr1, D, cD, esd, g1, gp1, go1, ge1, gs1⟩ := hp.map_at hea hm1
    obtain ⟨hr2, S, cS, ess, g2, gp2, go2, ge2, gs2⟩ := hp.map_at heb hm2
    have hbne : bd ≠ bs := fun e => hne (hp.inj a b bd hr1 (e ▸ hr2))
    obtain ⟨q1, q2, q3⟩ := hres go1 go2
    refine ⟨run_callFunc hf hbd hn _ _, ?_⟩
    have hcall := hj.hcopy (mu rho H w) w bd bs cD cS D S esd ess hbne g1 g2 ge1 ge2 gs1 gs2 (keys_perm gp1 go1) (keys_perm gp2 go2) (fun p hp' => hint p (gp2.mem_iff.1 hp')) (fun p hp' q hq => q3 p (gp2.mem_iff.1 hp') q (gp1.mem_iff.1 hq))
    refine CallsIn.mono (callsIn_wide.2 hcall) ?_
    rintro e w' ⟨rfl, D', cD', esd', t1, t2, t3, t4, t5, t6, t7, t8⟩
    have hperm : esd'.Perm res := by
      refine (List.perm_ext_iff_of_nodup (nodup_of_keys t4) (nodup_of_keys q1)).2 fun p => ?_
      rw [t5 p, q2 p, gp2.mem_iff, gp1.mem_iff, (gp2.map (·.1)).mem_iff]
    obtain ⟨p1, x1⟩ := hp.map_wrote hea hr1 g1 hS hperm q1 t3 t2 t1 t6 t7 t8
    exact ⟨.tuple #[], rfl, rho, by simp only [VR]; exact ⟨#[], rfl, by simp only [VRs]⟩, p1, x1⟩
end Go.Ev
