/- Code. -/
import Derived.Test.YtaodjhgfhdncgaaGreatDoorEv34
import Derived.LoopNIn
import Derived.RangeFuncIn
import Derived.RangeFuncRecord
set_option linter.unusedSectionVars false
set_option linter.unusedVariables false
set_option linter.unusedSimpArgs false
namespace Go.Ev
open Go.RowKit

inductive Out where
  | normal
  | jump (n : Nat)
def Out.ex : Out → Exit
  | .normal => .normal
  | .jump 0 => .ret
  | .jump (n + 1) => .exit n
/-- Marks for the calls that rounds defer: blocks of their own, open, and nothing in them. -/
def Marks (H : Heap) (rho' : Nat → Option Nat) (H' : Heap) (w' : World) (ms : List Deferred) : Prop :=
  ∃ bs : List (Nat × Nat), (bs.map (·.1)).Nodup ∧ ms = bs.map (fun p => { target := .collected p.2, args := #[] }) ∧ ∀ p ∈ bs, H.n ≤ p.1 ∧ p.1 < H'.n ∧ rho' p.1 = some p.2 ∧ H'.get p.1 = .mark ∧ w'.heap[p.2]? = some (.deferred (some []))
theorem Marks.nil {H H' : Heap} {rho' : Nat → Option Nat} {w' : World} : Marks H rho' H' w' [] := ⟨[], by simp, rfl, fun p h => by cases h⟩
theorem Marks.trans {H H1 H2 : Heap} {w1 w2 : World} {r1 r2 : Nat → Option Nat} {ms1 ms2 : List Deferred} (h : Marks H r1 H1 w1 ms1) (k : Marks H1 r2 H2 w2 ms2) (x : Ext r1 H1 w1 r2 H2 w2) (hn : H.n ≤ H1.n) : Marks H r2 H2 w2 (ms2 ++ ms1) := by
  obtain ⟨b1, n1, rfl, h1⟩ := h
  obtain ⟨b2, n2, rfl, h2⟩ := k
  refine ⟨b2 ++ b1, ?_, by simp, fun p hp => ?_⟩
  · rw [List.map_append, List.nodup_append]
    refine ⟨n2, n1, fun a ha b hb e => ?_⟩
    obtain ⟨p, hp, rfl⟩ := List.mem_map.1 ha
    obtain ⟨q, hq, rfl⟩ := List.mem_map.1 hb
    have := (h2 p hp).1
    have := (h1 q hq).2.1
    omega
  · rcases List.mem_append.1 hp with hp | hp
    · obtain ⟨g1, g2, g3⟩ := h2 p hp
      exact ⟨Nat.le_trans hn g1, g2, g3⟩
    · obtain ⟨g1, g2, g3, g4, g5⟩ := h1 p hp
      obtain ⟨m1, m2, m3⟩ := x.marks p.1 g4
      exact ⟨g1, Nat.lt_of_lt_of_le g2 x.n, m2.trans g3, m1, (m3 p.2 g3).trans g5⟩

/-- What a piece of code does. -/
def CS (P : Program) (nt : Nat) (inl : Bool) (c : Code) (e : Env) (H : Heap) (out : Out) (e' : Env) (H' : Heap) : Prop :=
  ∀ (rd : Option Nat) (hrd : inl = false → rd = none) (base : Nat) (w0 : World) (rho : Nat → Option Nat) (w : World) (a : Act), PR P base w0 rho H w → TR (mu rho H w) nt e a.tmps →
    ∀ (Q : Exit → Act → World → Prop), (∀ a' w' rho' ms, a'.defers = ms ++ a.defers → Marks H rho' H' w' ms → PR P base w0 rho' H' w' → TR (mu rho' H' w') nt e' a'.tmps → Ext rho H w rho' H' w' → Q out.ex a' w') → c.wpIn (WF rd) 0 P Q a w
theorem NS.cs {P : Program} {nt : Nat} {inl : Bool} {c : Code} {e e' : Env} {H H' : Heap} (h : NS P nt c e H e' H') : CS P nt inl c e H .normal e' H' := fun rd hrd base w0 rho w a hp ht Q hQ =>
  h rd base w0 rho w a hp ht Q fun a' w' rho' g1 g2 g3 g4 => hQ a' w' rho' [] g1 Marks.nil g2 g3 g4
/-- The same state, another ending. -/
theorem CS.here {P : Program} {nt : Nat} {inl : Bool} {c : Code} {e : Env} {H : Heap} {out : Out} (h : ∀ {rd Q a w}, Q out.ex a w → c.wpIn (WF rd) 0 P Q a w) : CS P nt inl c e H out e H := fun rd hrd base w0 rho w a hp ht Q hQ =>
  h (hQ a w rho [] rfl Marks.nil hp ht (Ext.refl hp.lt))

theorem then_normal {K : Act → World → Prop} {Q : Exit → Act → World → Prop} {a : Act} {w : World} (h : K a w) : Exit.then K Q .normal a w := h
theorem then_jump {K : Act → World → Prop} {Q : Exit → Act → World → Prop} {a : Act} {w : World} {n : Nat} (h : Q (Out.jump n).ex a w) : Exit.then K Q (Out.jump n).ex a w := by cases n <;> exact h

theorem CS.seq {P : Program} {nt : Nat} {inl : Bool} {x y : Code} {e e1 e2 : Env} {H H1 H2 : Heap} {out : Out} (h : CS P nt inl x e H .normal e1 H1) (k : CS P nt inl y e1 H1 out e2 H2) : CS P nt inl (.seq x y) e H out e2 H2 := fun rd hrd base w0 rho w a hp ht Q hQ =>
  wpIn_seq (h rd hrd base w0 rho w a hp ht _ fun a1 w1 rho1 ms1 d1 m1 p1 t1 x1 => then_normal (k rd hrd base w0 rho1 w1 a1 p1 t1 Q fun a2 w2 rho2 ms2 d2 m2 p2 t2 x2 =>
    hQ a2 w2 rho2 (ms2 ++ ms1) (by rw [d2, d1, List.append_assoc]) (m1.trans m2 x2 x1.n) p2 t2 (Ext.trans hp.lt x1 x2)))
theorem CS.seq_jump {P : Program} {nt : Nat} {inl : Bool} {x y : Code} {e e1 : Env} {H H1 : Heap} {n : Nat} (h : CS P nt inl x e H (.jump n) e1 H1) : CS P nt inl (.seq x y) e H (.jump n) e1 H1 := fun rd hrd base w0 rho w a hp ht Q hQ =>
  wpIn_seq (h rd hrd base w0 rho w a hp ht _ fun a1 w1 rho1 ms1 d1 m1 p1 t1 x1 => then_jump (hQ a1 w1 rho1 ms1 d1 m1 p1 t1 x1))

/-- Rounds of a loop. -/
def LS (P : Program) (nt : Nat) (inl : Bool) (c : Code) (m : Nat) (e : Env) (H : Heap) (n : Nat) (e' : Env) (H' : Heap) : Prop :=
  ∀ (rd : Option Nat) (hrd : inl = false → rd = none) (base : Nat) (w0 : World) (rho : Nat → Option Nat) (w : World) (a : Act), PR P base w0 rho H w → TR (mu rho H w) nt e a.tmps →
    ∀ (Q : Exit → Act → World → Prop), (∀ a' w' rho' ms, a'.defers = ms ++ a.defers → Marks H rho' H' w' ms → PR P base w0 rho' H' w' → TR (mu rho' H' w') nt e' a'.tmps → Ext rho H w rho' H' w' → Q (Out.jump n).ex a' w') → Code.roundsIn (WF rd) 0 P c Q m a w

def kk (kn : KE) (kx : Nat → KE) : Out → KE
  | .normal => kn
  | .jump n => kx n

section
variable {P : Program} {nt fid : Nat} {inl : Bool} {ph : Phi}

theorem loop_ok {c : Code} {f : Env → Heap → KE → (Nat → KE) → R} (hc : ∀ e H kn kx, f e H kn kx = 1 → ∃ out e' H', CS P nt inl c e H out e' H' ∧ kk kn kx out e' H' = 1) (kx : Nat → KE) : ∀ (m : Nat) (e : Env) (H : Heap),
    (Nat.rec (motive := fun _ => Env → Heap → R) (fun _ _ => no 3) (fun _ ih e H => f e H ih kx) m : Env → Heap → R) e H = 1 → ∃ n e' H', LS P nt inl c m e H n e' H' ∧ kx n e' H' = 1
  | 0, e, H, h => (no_ne h).elim
  | m + 1, e, H, h => by
    obtain ⟨out, e1, H1, h1, h2⟩ := hc e H _ kx h
    cases out with
    | jump n =>
      exact ⟨n, e1, H1, fun rd hrd base w0 rho w a hp ht Q hQ => by
        rw [roundsIn_succ]
        exact h1 rd hrd base w0 rho w a hp ht _ fun a' w' rho' ms d1 m1 p1 t1 x1 => then_jump (hQ a' w' rho' ms d1 m1 p1 t1 x1), h2⟩
    | normal =>
      obtain ⟨n, e2, H2, h3, h4⟩ := loop_ok hc kx m e1 H1 h2
      exact ⟨n, e2, H2, fun rd hrd base w0 rho w a hp ht Q hQ => by
        rw [roundsIn_succ]
        exact h1 rd hrd base w0 rho w a hp ht _ fun a1 w1 rho1 ms1 d1 m1 p1 t1 x1 => then_normal (h3 rd hrd base w0 rho1 w1 a1 p1 t1 Q fun a2 w2 rho2 ms2 d2 m2 p2 t2 x2 =>
          hQ a2 w2 rho2 (ms2 ++ ms1) (by rw [d2, d1, List.append_assoc]) (m1.trans m2 x2 x1.n) p2 t2 (Ext.trans hp.lt x1 x2)), h4⟩

def outOf : Nat → Out
  | 0 => .normal
  | m + 1 => .jump m
/-- A range over a function, outside of any round. -/
theorem rangeF_ok (hph : PhiOK P ph) {g : Operand} {ps : Array Tmp} {as bo : Code} {x : Arg} {l : List Slot} (hx : compArg nt g = some x) (hl : compPs nt ps.toList = some l) {fuel : Nat} {e : Env} {H : Heap} {kn : KE} {kx : Nat → KE}
    (h : evC (.rangeF x l (.mk nt fid as) (.mk nt fid bo)) fuel ph e H kn kx = 1) : ∃ out e' H', CS P nt false (.rangeFunc g ps as bo) e H out e' H' ∧ kk kn kx out e' H' = 1 := by
  have h' : getA x e (fun g => vFunc 0 g fun f caps => Nat.rec (motive := fun _ => R) (hNew H .mark fun _ H => hNew H (.loop 0 0 e l (.mk nt fid as) (.mk nt fid bo)) fun b H => ph (.func f caps) [.yld b] H fun _ H =>
    hGet H b fun bl => bLoop bl fun st j e' ps' as' bo' => Nat.rec (motive := fun _ => R) (hSet 0 H b (.loop 3 j e' ps' as' bo') fun H => Nat.rec (motive := fun _ => R) (kn e H) (fun m _ => kx m e H) j) (fun s _ => Nat.rec (motive := fun _ => R) (no 10) (fun _ _ => hSet 0 H b (.loop 3 j e' ps' as' bo') fun H => Nat.rec (motive := fun _ => R) (kn e H) (fun m _ => kx m e H) j) s) st) (fun _ _ => no 14) (Nat.mod f 2)) = 1 := h
  rw [getA_eq] at h'
  obtain ⟨f0, caps, hf, h0⟩ := vFunc_ok h'
  have hf0 : ∃ f, f0 = 2 * f ∧ hNew H .mark (fun _ H => hNew H (.loop 0 0 e l (.mk nt fid as) (.mk nt fid bo)) fun b H => ph (.func f0 caps) [.yld b] H fun _ H =>
    hGet H b fun bl => bLoop bl fun st j e' ps' as' bo' => Nat.rec (motive := fun _ => R) (hSet 0 H b (.loop 3 j e' ps' as' bo') fun H => Nat.rec (motive := fun _ => R) (kn e H) (fun m _ => kx m e H) j) (fun s _ => Nat.rec (motive := fun _ => R) (no 10) (fun _ _ => hSet 0 H b (.loop 3 j e' ps' as' bo') fun H => Nat.rec (motive := fun _ => R) (kn e H) (fun m _ => kx m e H) j) s) st) = 1 := by
    rcases (by omega : f0 % 2 = 0 ∨ f0 % 2 = 1) with hm | hm
    · rw [show Nat.mod f0 2 = 0 from hm] at h0
      exact ⟨f0 / 2, by omega, h0⟩
    · rw [show Nat.mod f0 2 = 1 from hm] at h0
      exact (no_ne h0).elim
  obtain ⟨f, rfl, h1⟩ := hf0
  obtain ⟨H1, h2, n1⟩ := hNew_ok h1
  obtain ⟨H2, h3, n2⟩ := hNew_ok h2
  obtain ⟨v, H3, ⟨_, h4⟩, h5⟩ := hph _ _ _ _ h3
  rw [hGet_eq] at h5
  obtain ⟨st, j, e', ps', as', bo', hb, h6⟩ := bLoop_ok h5
  have h7 : st ≠ 1 ∧ hSet 0 H3 H1.n (.loop 3 j e' ps' as' bo') (fun H => Nat.rec (motive := fun _ => R) (kn e H) (fun m _ => kx m e H) j) = 1 := by
    match st, h6 with
    | 0, h6 => exact ⟨by decide, h6⟩
    | 1, h6 => exact (no_ne h6).elim
    | s + 2, h6 => exact ⟨by omega, h6⟩
  obtain ⟨H4, h8, s4⟩ := hSet_ok h7.2
  have hcall := h4 f caps rfl
  refine ⟨outOf j, e, H4, fun rd hrd base w0 rho w a hp ht Q hQ => ?_, by cases j <;> exact h8⟩
  obtain rfl := hrd rfl
  refine wpIn_rangeFunc fun fn _ => ?_
  let rec0 : Loop := { state := .ready, pending := none, fn, tmps := a.tmps, params := ps, assign := as, body := bo, defers := w.heap.size }
  obtain ⟨p1, x1⟩ := hp.alloc (w' := w.alloc (.deferred (some []))) (o := .deferred (some [])) n1.n n1.wlo n1.get n1.oth trivial ⟨rfl, rfl, rfl⟩ (by simp) (World.alloc_heap_new w _) (fun j hj => Below.heap_alloc _ _ _ hj) ⟨_, rfl⟩
  have hsz1 : (w.alloc (.deferred (some []))).heap.size = w.heap.size + 1 := by simp
  generalize hr1 : (fun b => if b = H.n then some w.heap.size else rho b) = rho1 at p1 x1
  have hr1b : rho1 H.n = some w.heap.size := by rw [← hr1]; simp
  obtain ⟨p2, x2⟩ := p1.alloc (w' := (w.alloc (.deferred (some []))).alloc (.loop rec0)) (o := .loop rec0) n2.n n2.wlo n2.get n2.oth trivial ⟨rfl, rfl, rfl⟩ (by simp) (World.alloc_heap_new _ _) (fun j hj => Below.heap_alloc _ _ _ hj) ⟨rec0, nt, fid, rfl, rfl, rfl, ht.mono x1.mu, hl, rfl, rfl⟩
  generalize hr2 : (fun b => if b = H1.n then some (w.alloc (.deferred (some []))).heap.size else rho1 b) = rho2 at p2 x2
  have hr2b : rho2 H1.n = some (w.heap.size + 1) := by rw [← hr2]; simp
  have hr2a : rho2 H.n = some w.heap.size := by
    rw [← hr2]
    have : H.n ≠ H1.n := by have := n1.n; omega
    simp [this, hr1b]
  have hev := compArg_ok (mu := mu rho H w) ht hx
  rw [hf] at hev
  simp only [VR] at hev
  obtain ⟨cs, hg, hcs⟩ := hev
  have hg : a.eval g = .func (.func f) #[] cs := by simpa using hg
  have hyl : VR (mu rho2 H2 ((w.alloc (.deferred (some []))).alloc (.loop rec0))) (.yld H1.n) (.func (.yield (w.heap.size + 1)) #[] #[]) := by
    simp only [VR]
    exact ⟨_, rfl, by rw [n2.n]; omega, fun _ => hr2b⟩
  have hx12 := Ext.trans hp.lt x1 x2
  obtain ⟨hrun, hin⟩ := hcall base w0 rho2 _ (#[.func (.yield (w.heap.size + 1)) #[] #[]] ++ cs) p2 (by
    rw [Array.toList_append]
    exact VRs.append (by simp only [VRs]; exact ⟨_, _, rfl, hyl, rfl⟩) (VRs.mono hx12.mu _ _ hcs))
  refine ⟨w.heap.size + 1, [{ target := .collected w.heap.size, args := #[] }], (w.alloc (.deferred (some []))).alloc (.loop rec0), { target := .fn (.func f) cs, args := #[.func (.yield (w.heap.size + 1)) #[] #[]] }, (w.alloc (.deferred (some []))).alloc (.loop rec0), f, #[.func (.yield (w.heap.size + 1)) #[] #[]] ++ cs, (w.alloc (.deferred (some []))).alloc (.loop rec0), run_enterLoop_outer fn a.tmps ps as bo, ?_, fun _ _ => trivial, ?_, fun h => absurd h (by simp), ?_⟩
  · simp [resolve, Act.eval] at hg ⊢
    simp [hg, Deferred.ofValue]
  · simp only [invoke]
    exact hrun
  · refine (CallsIn.mono hin ?_ : CallsIn (WF none) 0 P f _ _ _)
    rintro en w3 ⟨cv, rfl, rho3, v3, p3, x3⟩
    -- behind the call
    have hr3b : rho3 H1.n = some (w.heap.size + 1) := x3.live _ _ hr2b (by rw [hb]; trivial)
    obtain ⟨o3, g1, g2⟩ := p3.blk _ _ hr3b
    rw [hb] at g2
    obtain ⟨r, nt', fid', rfl, g3, g4, g5, g6, g7, g8⟩ := g2
    have hnb : r.state ≠ .busy := fun e => h7.1 (by rw [← g3, e]; rfl)
    obtain ⟨p4, x4⟩ := p3.write (H' := H4) (w' := w3.putObj (w.heap.size + 1) (.loop { r with state := .exhausted })) hr3b (by rw [hb]; intro e; cases e) s4.n s4.wlo s4.wb s4.get s4.oth trivial ⟨rfl, rfl, rfl⟩ (by simp) (World.putObj_heap_same (Array.getElem?_eq_some_iff.1 g1).1) (fun j hj => World.putObj_heap_other hj)
      ⟨{ r with state := .exhausted }, nt', fid', rfl, rfl, g4, g5, g6, g7, g8⟩ (fun cs2 e2 fr2 h => by rw [g1] at h; cases h)
    have hxx := Ext.trans hp.lt hx12 (Ext.trans p2.lt x3 x4)
    have hmk : H2.get H.n = .mark := by
      rw [n2.oth _ (by have := n1.n; omega)]
      exact n1.get
    obtain ⟨m1, m2, m3⟩ := (Ext.trans p2.lt x3 x4).marks H.n hmk
    have hmw : ((w.alloc (.deferred (some []))).alloc (.loop rec0)).heap[w.heap.size]? = some (.deferred (some [])) := by
      rw [Below.heap_alloc _ _ _ (by simp)]
      exact World.alloc_heap_new w _
    have hmarks : Marks H rho3 H4 (w3.putObj (w.heap.size + 1) (.loop { r with state := .exhausted })) [{ target := .collected w.heap.size, args := #[] }] :=
      ⟨[(H.n, w.heap.size)], by simp, rfl, fun p hpm => by
        obtain rfl : p = (H.n, w.heap.size) := by simpa using hpm
        refine ⟨Nat.le_refl _, ?_, m2.trans hr2a, m1, (m3 _ hr2a).trans hmw⟩
        have e1 := n1.n
        have e2 := n2.n
        have e3 := x3.n
        have e4 := x4.n
        show H.n < H4.n
        omega⟩
    have hq := hQ { a with defers := [{ target := .collected w.heap.size, args := #[] }] ++ a.defers } _ rho3 _ rfl hmarks p4 (TR.mono hxx.mu ht) hxx
    refine ⟨r.pending, _, run_endLoop g1 hnb, ?_⟩
    rw [g4] at hq ⊢
    clear h5 h6 h7 h8 s4 hb p4 x4 hxx hmarks hnb h' h h1 h2 h3 hQ m1 m2 m3
    rcases j with _ | _ | m
    · exact hq
    · exact wpIn_ret hq
    · exact wpIn_exit hq

theorem evC_ok (hm : P.follows .mixedOrders = true) (hph : PhiOK P ph) (fuel : Nat) : ∀ (c : Code) (e : Env) (H : Heap) (kn : KE) (kx : Nat → KE), evC (compC P nt fid inl c) fuel ph e H kn kx = 1 → ∃ out e' H', CS P nt inl c e H out e' H' ∧ kk kn kx out e' H' = 1 := by
  intro c
  induction c with
  | skip => intro e H kn kx h; exact ⟨.normal, e, H, CS.here fun h => wpIn_skip h, h⟩
  | exit id => intro e H kn kx h; exact ⟨.jump (id + 1), e, H, CS.here fun h => wpIn_exit h, h⟩
  | ret => intro e H kn kx h; exact ⟨.jump 0, e, H, CS.here fun h => wpIn_ret h, h⟩
  | seq x y ihx ihy =>
    intro e H kn kx h
    obtain ⟨out, e1, H1, h1, h2⟩ := ihx e H (fun e H => evC (compC P nt fid inl y) fuel ph e H kn kx) kx h
    cases out with
    | jump n => exact ⟨.jump n, e1, H1, h1.seq_jump, h2⟩
    | normal =>
      obtain ⟨out, e2, H2, h3, h4⟩ := ihy e1 H1 kn kx h2
      exact ⟨out, e2, H2, h1.seq h3, h4⟩
  | cond x a b iha ihb =>
    intro e H kn kx h
    unfold compC at h
    split at h
    · rename_i ar har
      have h' : getA ar e (fun v => vBool 0 v fun b' => ifB b' (evC (compC P nt fid inl a) fuel ph e H kn kx) (evC (compC P nt fid inl b) fuel ph e H kn kx)) = 1 := h
      rw [getA_eq] at h'
      obtain ⟨t, ht, h1⟩ := vBool_ok h'
      have hev : ∀ {m : M} {ac : Act}, TR m nt e ac.tmps → ac.eval x = .bool t := fun htr => by
        have := compArg_ok htr har
        rw [ht] at this
        simpa only [VR] using this
      cases t with
      | true =>
        obtain ⟨out, e1, H1, h2, h3⟩ := iha e H kn kx h1
        exact ⟨out, e1, H1, fun rd hrd base w0 rho w ac hp htr Q hQ => wpIn_cond_true (hev htr) (h2 rd hrd base w0 rho w ac hp htr Q hQ), h3⟩
      | false =>
        obtain ⟨out, e1, H1, h2, h3⟩ := ihb e H kn kx h1
        exact ⟨out, e1, H1, fun rd hrd base w0 rho w ac hp htr Q hQ => wpIn_cond_false (hev htr) (h2 rd hrd base w0 rho w ac hp htr Q hQ), h3⟩
    · exact (no_ne h).elim
  | block id a iha =>
    intro e H kn kx h
    obtain ⟨out, e1, H1, h1, h2⟩ := iha e H kn (fun n e H => ifB (Nat.beq n (Nat.succ id)) (kn e H) (kx n e H)) h
    cases out with
    | normal => exact ⟨.normal, e1, H1, fun rd hrd base w0 rho w ac hp htr Q hQ => wpIn_block (h1 rd hrd base w0 rho w ac hp htr _ hQ), h2⟩
    | jump n =>
      rcases ifB_or h2 with ⟨h3, h4⟩ | ⟨h3, h4⟩
      · have := beq_of h3
        subst this
        refine ⟨.normal, e1, H1, fun rd hrd base w0 rho w ac hp htr Q hQ => wpIn_block (h1 rd hrd base w0 rho w ac hp htr _ fun a' w' rho' ms d1 m1 p1 t1 x1 => ?_), h4⟩
        show Exit.inBlock id Q (.exit id) a' w'
        simp only [Exit.inBlock, if_true]
        exact hQ a' w' rho' ms d1 m1 p1 t1 x1
      · refine ⟨.jump n, e1, H1, fun rd hrd base w0 rho w ac hp htr Q hQ => wpIn_block (h1 rd hrd base w0 rho w ac hp htr _ fun a' w' rho' ms d1 m1 p1 t1 x1 => ?_), h4⟩
        have hq := hQ a' w' rho' ms d1 m1 p1 t1 x1
        cases n with
        | zero => exact hq
        | succ n =>
          show Exit.inBlock id Q (.exit n) a' w'
          have hne : n ≠ id := fun h => by subst h; simp at h3
          simp only [Exit.inBlock, hne, if_false]
          exact hq
  | loop a iha =>
    intro e H kn kx h
    obtain ⟨n, e1, H1, h1, h2⟩ := loop_ok (f := fun e H kn kx => evC (compC P nt fid inl a) fuel ph e H kn kx) iha kx fuel e H h
    exact ⟨.jump n, e1, H1, fun rd hrd base w0 rho w ac hp htr Q hQ => wpIn_loop_rounds fuel (h1 rd hrd base w0 rho w ac hp htr Q hQ), h2⟩
  | region id ops draw =>
    intro e H kn kx h
    cases draw with
    | false =>
      have h' : evC (match compRegG P nt (fid * 100000 + id * 100) ops [] [] #[] ops.toList 0 with | some l => .reg l | none => .bad) fuel ph e H kn kx = 1 := h
      split at h'
      · rename_i l hl
        obtain ⟨e1, H1, h1, h2⟩ := evReg_ok hph ops.toList 0 l e H kn hl h'
        exact ⟨.normal, e1, H1, NS.cs fun rd base w0 rho w a hp ht Q hQ => wpIn_region_list (h1 rd base w0 rho w a hp ht Q hQ), h2⟩
      · exact (no_ne h').elim
    | true =>
      have h0 : evC (if backOK P ops = true then (match compRegG P nt (fid * 100000 + id * 100) ops [] [] #[] (ops.toList.filter isLoad) 0 with | some l => CodeE.reg l | none => .bad) else if (apartOK ops (Region.before ops) && edgesOK ops) = true then (if needF (ops.toList.map (compOp P nt)) (Region.before ops) = true then (match compFregG P nt (fid * 100000 + id * 100) ops (ops.toList.map (compOp P nt)) (Region.before ops) ops.toList 0 with | some l => CodeE.freg l | none => .bad) else match compRegG P nt (fid * 100000 + id * 100) ops (ops.toList.map fun o => pureOp (compOp P nt o)) (ops.toList.map fun o => isAl (compOp P nt o)) (Region.before ops) ops.toList 0 with | some l => CodeE.dreg l | none => .bad) else .bad) fuel ph e H kn kx = 1 := h
      split at h0
      · rename_i hbk
        split at h0
        · rename_i l hl
          obtain ⟨e1, h1, h2⟩ := back_ok (bid := id) hm hbk hl (show evReg ph l e H kn = 1 from h0)
          exact ⟨.normal, e1, H, h1.cs, h2⟩
        · exact (no_ne h0).elim
      have h' := h0
      split at h'
      · rename_i hcd
        rw [Bool.and_eq_true] at hcd
        split at h'
        · split at h'
          · rename_i l hl
            cases H with
            | mk n wlo t =>
              obtain ⟨e1, H1, h1, h2⟩ := freg_ok (id := id) (H := .mk n wlo t) hm hph hcd.1 hcd.2 hl (show evFreg ph n l e (.mk n wlo t) [] [] kn = 1 from h')
              exact ⟨.normal, e1, H1, h1.cs, h2⟩
          · exact (no_ne h').elim
        split at h'
        · rename_i l hl
          obtain ⟨e1, H1, h1, h2⟩ := dreg_ok (id := id) hm hph hcd.1 hcd.2 hl (show evDreg ph l e H kn = 1 from h')
          exact ⟨.normal, e1, H1, h1.cs, h2⟩
        · exact (no_ne h').elim
      · exact (no_ne h').elim
  | rangeFunc g ps as bo iha ihb =>
    intro e H kn kx h
    cases inl with
    | true => exact (no_ne h).elim
    | false =>
      have h0 : evC (match compArg nt g, compPs nt ps.toList with | some x, some l => .rangeF x l (.mk nt fid as) (.mk nt fid bo) | _, _ => .bad) fuel ph e H kn kx = 1 := h
      split at h0
      · rename_i x l hx hl
        exact rangeF_ok hph hx hl h0
      · exact (no_ne h0).elim
  | _ => intro e H kn kx h; exact (no_ne h).elim
end
end Go.Ev
