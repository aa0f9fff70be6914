/- Functions, and the table of them. -/
import Derived.Test.YtaodjhgfhdncgaaGreatDoorEv30
import Derived.RangeFuncLeaves
set_option linter.unusedSectionVars false
set_option linter.unusedVariables false
set_option linter.unusedSimpArgs false
namespace Go.Ev
open Go.RowKit

section
variable {P : Program}

theorem run_callFunc {f : FuncId} {fn : Func} {c : Code} (hf : P.funcs[f]? = some fn) (hb : fn.body = some c) (hn : (fn.name == "runtime.NumGoroutine") = false) (args : Array Value) (w : World) : (callFunc f args).run P w = .ok (.enter f args) w := by
  have hn' : fn.name ≠ "runtime.NumGoroutine" := by simpa using hn
  simp [callFunc, hf, hb, hn']

/-- A function's way out, over the marks that its ranges over functions have left. -/
theorem leave_ok {fn : Func} {tmps : Array Value} {R : Ending → World → Prop} {base : Nat} {w0 w : World} {rho rho' : Nat → Option Nat} {H H' : Heap} {nt : Nat} {e : Env} (h0 : ∀ b c, rho b = some c → b < H.n) : ∀ {w' : World}, PR P base w0 rho' H' w' → TR (mu rho' H' w') nt e tmps → Ext rho H w rho' H' w' → ∀ (bs : List (Nat × Nat)), (∀ p ∈ bs, H.n ≤ p.1) → (bs.map (·.1)).Nodup → (∀ p ∈ bs, rho' p.1 = some p.2 ∧ H'.get p.1 = .mark ∧ w'.heap[p.2]? = some (.deferred (some []))) →
    (∀ w2, PR P base w0 rho' H' w2 → TR (mu rho' H' w2) nt e tmps → Ext rho H w rho' H' w2 → ∃ v, (results fn tmps).run P w2 = .ok v w2 ∧ R (.returned v) w2) → LeavesInM (WF none) 0 P fn tmps R (bs.map fun p => { target := .collected p.2, args := #[] }) .returning w'
  | w', hp, ht, hx, [], _, _, _, hR => hR w' hp ht hx
  | w', hp, ht, hx, p :: bs, hn, hnd, hb, hR => by
    obtain ⟨h1, h2, h3⟩ := hb p (List.mem_cons_self ..)
    have hlt := (hp.dom _ _ h1).2.2.1
    have hnn := hn p (List.mem_cons_self ..)
    have hot : ∀ k, k ≠ p.2 → (w'.putObj p.2 (.deferred none)).heap[k]? = w'.heap[k]? := fun k hk => World.putObj_heap_other hk
    have hm : (mu rho' H' w').le (mu rho' H' (w'.putObj p.2 (.deferred none))) := ⟨fun _ _ h => h, fun c z ⟨cs, e, fr, g1, g2⟩ => ⟨cs, e, fr, (hot c fun e => by subst e; rw [h3] at g1; cases g1).trans g1, g2⟩⟩
    have hp2 : PR P base w0 rho' H' (w'.putObj p.2 (.deferred none)) := by
      refine ⟨below_of hp.below rfl rfl rfl (by simp) fun k hk => hot k (by have := (hp.dom _ _ h1).2.1; omega), by simp; exact hp.base_le, hp.wn, fun b c hr => by simp; exact hp.dom b c hr, hp.inj, fun b c hr => ?_, hp.out⟩
      by_cases hc : c = p.2
      · subst hc
        obtain rfl := hp.inj _ _ _ hr h1
        exact ⟨_, World.putObj_heap_same hlt, by rw [h2]; exact ⟨_, rfl⟩⟩
      · obtain ⟨o, g1, g2⟩ := hp.blk b c hr
        exact ⟨o, (hot c hc).trans g1, g2.mono hm⟩
    have hx2 : Ext rho H w rho' H' (w'.putObj p.2 (.deferred none)) := by
      refine ⟨hx.n, hx.wlo, by simp; exact hx.size, hx.keep, hx.old, hx.live, hx.nores, hx.new, fun c hc hb => ?_, fun b hm => ?_, fun c cs e fr hc => ?_⟩
      · refine (hot c fun e => ?_).trans (hx.fr c hc hb)
        subst e
        rcases hx.new _ _ hnn h1 with h | ⟨b0, g1, g2⟩
        · omega
        · have := hb b0 g1; omega
      · obtain ⟨a1, a2, a3⟩ := hx.marks b hm
        refine ⟨a1, a2, fun c hc => (hot c fun e => ?_).trans (a3 c hc)⟩
        subst e
        have := hp.inj _ _ _ (a2.trans hc) h1
        subst this
        have := h0 _ _ hc
        omega
      · obtain ⟨cs', e', fr', g1, g2⟩ := hx.rows c cs e fr hc
        exact ⟨cs', e', fr', (hot c fun e => by subst e; rw [h3] at g1; cases g1).trans g1, g2⟩
    refine ⟨by simp, Or.inl ⟨p.2, _, rfl, run_takeDeferred h3, ?_⟩⟩
    rw [List.map_cons, List.nodup_cons] at hnd
    refine leave_ok h0 hp2 (ht.mono hm) hx2 bs (fun q hq => hn q (List.mem_cons_of_mem _ hq)) hnd.2 (fun q hq => ?_) hR
    obtain ⟨g1, g2, g3⟩ := hb q (List.mem_cons_of_mem _ hq)
    refine ⟨g1, g2, (hot q.2 fun e => ?_).trans g3⟩
    have := hp.inj _ _ _ (e ▸ g1) h1
    exact hnd.1 (List.mem_map.2 ⟨q, hq, this⟩)

theorem fn_ok {f : FuncId} {fn : Func} {fe : FnE} {fuel : Nat} {ph : Phi} {args : List V} {H : Heap} {k : K} (hm : P.follows .mixedOrders = true) (hph : PhiOK P ph) (hf : P.funcs[f]? = some fn) (hn : (fn.name == "runtime.NumGoroutine") = false) (hfe : compFn P f fn = some fe) (h : evFn fe fuel ph args H k = 1) :
    ∃ v H', CallF P f args H v H' ∧ k v H' = 1 := by
  unfold compFn at hfe
  split at hfe
  · rename_i c hb
    split at hfe
    · rename_i hcd
      rw [Bool.and_eq_true, decide_eq_true_eq, decide_eq_true_eq] at hcd
      split at hfe
      · rename_i r hr
        cases hfe
        have h' : setPs ((List.range (fn.params.size + fn.nfree)).map slotOf) args env0 (fun e => evC (compC P fn.ntmps f false c) fuel ph e H (fun e H => getRs r e H fun l => retV l fun v => k v H) fun n e H => Nat.rec (motive := fun _ => R) (getRs r e H fun l => retV l fun v => k v H) (fun _ _ => no 6) n) = 1 := h
        rw [List.range_eq_range'] at h'
        obtain ⟨e, h1, h2, h3⟩ := setPs_ok _ 0 args env0 _ (by omega) h'
        obtain ⟨out, e1, H1, h4, h5⟩ := evC_ok hm hph fuel c e H _ _ h1
        have h6 : getRs r e1 H1 (fun l => retV l fun v => k v H1) = 1 ∧ (out.ex = .normal ∨ out.ex = .ret) := by
          cases out with
          | normal => exact ⟨h5, Or.inl rfl⟩
          | jump n =>
            cases n with
            | zero => exact ⟨h5, Or.inr rfl⟩
            | succ n => exact (no_ne h5).elim
        obtain ⟨vs, h7, h8, h9⟩ := getRs_ok (nt := fn.ntmps) _ _ _ _ _ hr h6.1
        obtain ⟨v, h10, h11⟩ := retV_ok h7
        refine ⟨v, H1, fun base w0 rho w cargs hp ha => ⟨run_callFunc hf hb hn _ _, ?_⟩, h10⟩
        have hlen := ha.length
        have hsz : cargs.size = fn.params.size + fn.nfree := by rw [← Array.length_toList, hlen, h2]
        have htr : TR (mu rho H w) fn.ntmps e (cargs ++ Array.replicate (fn.ntmps - cargs.size) undef) := by
          refine ⟨by simp; omega, hcd.1, fun t u hu => ?_, fun t g1 g2 => ?_⟩
          · have ht : t < fn.ntmps := by
              have := (Array.getElem?_eq_some_iff.1 hu).1
              simp at this; omega
            rw [h3 t (by omega), if_pos (Nat.zero_le _), Nat.sub_zero]
            by_cases htc : t < cargs.size
            · rw [Array.getElem?_append_left htc] at hu
              have hta : t < args.length := by omega
              have hex : args[t]? = some args[t] := List.getElem?_eq_getElem hta
              obtain ⟨c', g3, g4⟩ := ha.get hex
              rw [Array.getElem?_toList, hu] at g3
              cases g3
              rw [hex]
              exact g4
            · rw [Array.getElem?_append_right (by omega), Array.getElem?_replicate] at hu
              split at hu
              · cases hu
                rw [List.getElem?_eq_none (by omega), Option.getD_none, pget_env0]
                exact vr_undef
              · cases hu
          · rw [h3 t g2, if_pos (Nat.zero_le _), Nat.sub_zero, List.getElem?_eq_none (by omega), Option.getD_none, pget_env0]
        refine callsIn_of_wp_marks (F := WF none) (n := 0) hf hb trivial ?_
        refine h4 none (fun _ => rfl) base w0 rho w _ hp htr _ fun a' w' rho' ms d1 m1 p1 t1 x1 => ?_
        obtain ⟨bs, nd, hms, hbs⟩ := m1
        have hd : a'.defers = bs.map (fun p => { target := .collected p.2, args := #[] }) := by rw [d1, hms]; simp
        have key := leave_ok (fn := fn) (tmps := a'.tmps) (R := fun en w' => ∃ cv, en = .returned cv ∧ Left P base w0 rho H w v H1 cv w') hp.lt p1 t1 x1 bs (fun p hp => (hbs p hp).1) nd (fun p hp => ⟨(hbs p hp).2.2.1, (hbs p hp).2.2.2.1, (hbs p hp).2.2.2.2⟩) fun w2 p2 t2 x2 => by
          obtain ⟨cs, g1, g2⟩ := h9 p2 t2
          have hres : (results fn a'.tmps).run P w2 = .ok (if h : cs.toArray.size = 1 then cs.toArray[0] else .tuple cs.toArray) w2 := by
            rw [results_eq, Array.mapM_eq_mapM_toList]
            simp [g1]
          exact ⟨_, hres, _, rfl, rho', h11 _ _ g2, p2, x2⟩
        have hpost : bodyPostM (WF none) 0 P fn (fun en w' => ∃ cv, en = .returned cv ∧ Left P base w0 rho H w v H1 cv w') .normal a' w' := by
          show LeavesInM (WF none) 0 P fn a'.tmps _ a'.defers .returning w'
          rw [hd]
          exact key
        rcases h6.2 with h | h <;> rw [h] <;> exact hpost
      · cases hfe
    · cases hfe
  · cases hfe

/-- A function taken by what is known of it. -/
def NatOK (P : Program) (f : FuncId) (g : List V → Heap → K → R) : Prop := ∀ args H k, g args H k = 1 → ∃ v H', CallF P f args H v H' ∧ k v H' = 1
def TabOK (P : Program) (t : Nat → Option FnE) : Prop := ∀ f fe, t f = some fe → (∃ fn, P.funcs[f]? = some fn ∧ (fn.name == "runtime.NumGoroutine") = false ∧ compFn P f fn = some fe) ∨ ∃ g, fe = .nat g ∧ NatOK P f g

/-- Parameters of a round. -/
theorem setRs_ok : ∀ (sl : List Slot) (args : List V) (e : Env) (k : Env → R), setPs sl args e k = 1 →
    args.length = sl.length ∧ ∃ e', k e' = 1 ∧ ∀ (m : M) (nt : Nat) (ps : List Tmp) (cargs : List Value) (tmps : Array Value), compPs nt ps = some sl → TR m nt e tmps → VRs m args cargs → TR m nt e' ((ps.zip cargs).foldl (fun tmps (q : Tmp × Value) => tmps.setIfInBounds q.1 q.2) tmps)
  | [], args, e, k, h => by
    cases args with
    | nil => exact ⟨rfl, e, h, fun m nt ps cargs tmps hc ht hv => by
        simp only [VRs] at hv
        subst hv
        simpa using ht⟩
    | cons => exact (no_ne h).elim
  | s :: sl, args, e, k, h => by
    cases args with
    | nil => exact (no_ne h).elim
    | cons v args =>
      have h' : setS s v e (fun e' => setPs sl args e' k) = 1 := h
      rw [setS_eq] at h'
      obtain ⟨h1, e', h2, h3⟩ := setRs_ok sl args _ k h'
      refine ⟨by simp [h1], e', h2, fun m nt ps cargs tmps hc ht hv => ?_⟩
      cases ps with
      | nil => simp [compPs] at hc
      | cons p ps =>
        simp only [compPs] at hc
        split at hc
        · rename_i r hr
          split at hc
          · rename_i hp
            cases hc
            simp only [VRs] at hv
            obtain ⟨c, cr, rfl, hv1, hv2⟩ := hv
            simpa using h3 m nt ps cr _ hr (ht.put hp hv1) hv2
          · cases hc
        · cases hc

def jumpOf : Out → Option Code
  | .normal => none
  | .jump 0 => some .ret
  | .jump (n + 1) => some (.exit n)
theorem compPs_length {nt : Nat} : ∀ {l : List Tmp} {r : List Slot}, compPs nt l = some r → r.length = l.length
  | [], r, h => by simp only [compPs, Option.some.injEq] at h; subst h; rfl
  | t :: l, r, h => by
    simp only [compPs] at h
    split at h
    · rename_i q hq
      split at h
      · cases h; simp [compPs_length hq]
      · cases h
    · cases h

/-- What a round ends with. -/
theorem evY_ok {ph : Phi} (hm : P.follows .mixedOrders = true) (hph : PhiOK P ph) {fuel b : Nat} {args : List V} {H : Heap} {k : K} (h : evY (compRC P) fuel ph b args H k = 1) : ∃ v H', FSq P (.yld b) args H v H' ∧ k v H' = 1 := by
  unfold evY at h
  rw [hGet_eq] at h
  obtain ⟨st, j, e, ps, as, bo, hb, h1⟩ := bLoop_ok h
  match st, hb, h1 with
  | s + 1, hb, h1 => exact (no_ne h1).elim
  | 0, hb, h1 =>
    obtain ⟨nt, fid, c1⟩ := as
    obtain ⟨nt2, fid2, c2⟩ := bo
    have h2 : setPs ps args e (fun e1 => evC (compC P nt fid true c1) fuel ph e1 H (fun e2 H => hGet H b fun bl => bLoop bl fun st1 j1 e1 ps1 as1 bo1 => Nat.rec (motive := fun _ => R) (hSet 0 H b (.loop 1 j1 e1 ps1 as1 bo1) fun H => evC (compC P nt2 fid2 true c2) fuel ph e2 H
      (fun _ H => hGet H b fun bl => bLoop bl fun _ _ e' ps' as' bo' => hSet 0 H b (.loop 0 0 e' ps' as' bo') fun H => k (.bool true) H)
      fun n _ H => hGet H b fun bl => bLoop bl fun _ _ e' ps' as' bo' => hSet 0 H b (.loop 2 (Nat.succ n) e' ps' as' bo') fun H => k (.bool false) H) (fun _ _ => no 13) st1) (fun _ _ _ => no 11)) = 1 := h1
    obtain ⟨hlen, e1, h3, hT⟩ := setRs_ok _ _ _ _ h2
    obtain ⟨out, e2, H1, cs1, h4⟩ := evC_ok hm hph fuel c1 e1 H _ _ h3
    cases out with
    | jump n => exact (no_ne h4).elim
    | normal =>
      have h4' : hGet H1 b (fun bl => bLoop bl fun st1 j1 e1 ps1 as1 bo1 => Nat.rec (motive := fun _ => R) (hSet 0 H1 b (.loop 1 j1 e1 ps1 as1 bo1) fun H => evC (compC P nt2 fid2 true c2) fuel ph e2 H
        (fun _ H => hGet H b fun bl => bLoop bl fun _ _ e' ps' as' bo' => hSet 0 H b (.loop 0 0 e' ps' as' bo') fun H => k (.bool true) H)
        fun n _ H => hGet H b fun bl => bLoop bl fun _ _ e' ps' as' bo' => hSet 0 H b (.loop 2 (Nat.succ n) e' ps' as' bo') fun H => k (.bool false) H) (fun _ _ => no 13) st1) = 1 := h4
      rw [hGet_eq] at h4'
      obtain ⟨st1, j1, ea, psa, asa, boa, hb1, h5⟩ := bLoop_ok h4'
      match st1, hb1, h5 with
      | s + 1, hb1, h5 => exact (no_ne h5).elim
      | 0, hb1, h5 =>
        obtain ⟨H2, h6, s2⟩ := hSet_ok (show hSet 0 H1 b (.loop 1 j1 ea psa asa boa) _ = 1 from h5)
        obtain ⟨out3, e3, H3, cs2, h7⟩ := evC_ok hm hph fuel c2 e2 H2 _ _ h6
        have fin : ∃ (bv : Bool) (st4 jmp : Nat) (H4 : Heap) (st3 j3 : Nat) (eb : Env) (psb : List Slot) (asb bob : RC), H3.get b = .loop st3 j3 eb psb asb bob ∧ SetTo H3 b (.loop st4 jmp eb psb asb bob) H4 ∧ k (.bool bv) H4 = 1 ∧ pend jmp = jumpOf out3 ∧ bv = (jumpOf out3).isNone ∧ st4 = stOf (if (jumpOf out3).isNone then .ready else .done) := by
          cases out3 with
          | normal =>
            have h8 : hGet H3 b (fun bl => bLoop bl fun _ _ e' ps' as' bo' => hSet 0 H3 b (.loop 0 0 e' ps' as' bo') fun H => k (.bool true) H) = 1 := h7
            rw [hGet_eq] at h8
            obtain ⟨st3, j3, eb, psb, asb, bob, hb3, h9⟩ := bLoop_ok h8
            obtain ⟨H4, h10, s4⟩ := hSet_ok h9
            exact ⟨true, 0, 0, H4, st3, j3, eb, psb, asb, bob, hb3, s4, h10, rfl, rfl, rfl⟩
          | jump n =>
            have h8 : hGet H3 b (fun bl => bLoop bl fun _ _ e' ps' as' bo' => hSet 0 H3 b (.loop 2 (Nat.succ n) e' ps' as' bo') fun H => k (.bool false) H) = 1 := h7
            rw [hGet_eq] at h8
            obtain ⟨st3, j3, eb, psb, asb, bob, hb3, h9⟩ := bLoop_ok h8
            obtain ⟨H4, h10, s4⟩ := hSet_ok h9
            exact ⟨false, 2, n + 1, H4, st3, j3, eb, psb, asb, bob, hb3, s4, h10, by cases n <;> rfl, by cases n <;> rfl, by cases n <;> rfl⟩
        obtain ⟨bv, st4, jmp, H4, st3, j3, eb, psb, asb, bob, hb3, s4, hk, hpend, hbv, hst4⟩ := fin
        refine ⟨.bool bv, H4, ⟨fun rd base w0 rho w cx cargs hp hx ha o a => ?_, fun f caps e => by cases e⟩, hk⟩
        simp only [VR] at hx
        obtain ⟨c, rfl, hmu⟩ := hx
        have hr : rho b = some c := hmu.2 (by rw [hb]; trivial)
        obtain ⟨o1, g1, g2⟩ := hp.blk _ _ hr
        rw [hb] at g2
        obtain ⟨r, nt', fid', rfl, g3, g4, g5, g6, g7, g8⟩ := g2
        have hready : ∀ {x : LoopState}, stOf x = 0 → x = .ready := fun {x} hx => by cases x <;> simp [stOf] at hx; rfl
        simp only [RC.mk.injEq] at g7 g8
        obtain ⟨rfl, rfl, g7⟩ := g7
        obtain ⟨rfl, rfl, g8⟩ := g8
        have hsz : cargs.size = r.params.size := by
          rw [← Array.length_toList, ha.length, hlen, compPs_length g6, Array.length_toList]
        have he : (do let d ← Deferred.ofValue (.func (.yield c) #[] #[]) cargs; invoke d.target d.args : Sem Next).run P w = .ok (.round c r.fn ((r.params.zip cargs).foldl (fun tmps (t, a) => tmps.setIfInBounds t a) r.tmps) r.assign r.body) w := by
          have := run_yield (P := P) g1 hsz
          simp [Deferred.ofValue, invoke, this]
        rw [he, g7, g8]
        have htr : TR (mu rho H w) nt' e1 ((r.params.zip cargs).foldl (fun tmps (t, a) => tmps.setIfInBounds t a) r.tmps) := by
          have := hT (mu rho H w) nt' r.params.toList cargs.toList r.tmps g6 g5 ha
          rw [← Array.foldl_toList, Array.toList_zip]
          exact this
        refine ⟨fun h => absurd h (by simp), ?_⟩
        refine (roundIn_of_wpIn (F := WF rd) (n := 0) trivial ?_ : RoundIn (WF rd) 0 P _ _ _ _ _ _ _)
        refine (cs1 (some c) (fun h => by cases h) base w0 rho w { tmps := _, defers := [] } hp htr _ fun a1 w1 rho1 ms1 d1 m1 p1 t1 x1 => ?_ : Code.wpIn (WF (some c)) 0 P _ _ _ _)
        refine then_normal ?_
        have hr1 : rho1 b = some c := x1.live b c hr (by rw [hb1]; trivial)
        obtain ⟨o2, q1, q2⟩ := p1.blk _ _ hr1
        rw [hb1] at q2
        obtain ⟨r1, nt1, fid1, rfl, q3, q4, q5, q6, q7, q8⟩ := q2
        refine ⟨_, run_beginRound q1 (hready q3), ?_⟩
        obtain ⟨p2, x2⟩ := p1.write (H' := H2) (w' := w1.putObj c (.loop { r1 with state := .busy })) hr1 (by rw [hb1]; intro e; cases e) s2.n s2.wlo s2.wb s2.get s2.oth trivial ⟨rfl, rfl, rfl⟩ (by simp) (World.putObj_heap_same (Array.getElem?_eq_some_iff.1 q1).1) (fun j hj => World.putObj_heap_other hj)
          ⟨{ r1 with state := .busy }, nt1, fid1, rfl, rfl, q4, q5, q6, q7, q8⟩ (fun cs2 e2 fr2 h => by rw [q1] at h; cases h)
        refine (cs2 (some c) (fun h => by cases h) base w0 rho1 _ a1 p2 (t1.mono x2.mu) _ fun a3 w3 rho3 ms3 d3 m3 p3 t3 x3 => ?_ : Code.wpIn (WF (some c)) 0 P _ _ _ _)
        have hr3 : rho3 b = some c := x3.live b c hr1 (by rw [hb3]; trivial)
        obtain ⟨o3, u1, u2⟩ := p3.blk _ _ hr3
        rw [hb3] at u2
        obtain ⟨r3, nt3, fid3, rfl, u3, u4, u5, u6, u7, u8⟩ := u2
        obtain ⟨p4, x4⟩ := p3.write (H' := H4) (w' := w3.putObj c (.loop { r3 with state := if (jumpOf out3).isNone then .ready else .done, pending := jumpOf out3 })) hr3 (by rw [hb3]; intro e; cases e) s4.n s4.wlo s4.wb s4.get s4.oth trivial ⟨rfl, rfl, rfl⟩ (by simp) (World.putObj_heap_same (Array.getElem?_eq_some_iff.1 u1).1) (fun j hj => World.putObj_heap_other hj)
          ⟨{ r3 with state := if (jumpOf out3).isNone then .ready else .done, pending := jumpOf out3 }, nt3, fid3, rfl, hst4.symm, hpend.symm, u5, u6, u7, u8⟩ (fun cs2 e2 fr2 h => by rw [u1] at h; cases h)
        have hR : ∃ cv, a.put o.dst (.bool (jumpOf out3).isNone) = a.put o.dst cv ∧ Left P base w0 rho H w (.bool bv) H4 cv (w3.putObj c (.loop { r3 with state := if (jumpOf out3).isNone then .ready else .done, pending := jumpOf out3 })) :=
          ⟨_, rfl, rho3, by simp only [VR]; rw [hbv], p4, Ext.trans hp.lt x1 (Ext.trans p1.lt x2 (Ext.trans p2.lt x3 x4))⟩
        have hend := run_endRound (P := P) (jumpOf out3) u1
        cases out3 with
        | normal => exact ⟨_, _, hend, hR⟩
        | jump n => cases n <;> exact ⟨_, _, hend, hR⟩

theorem evP_ok (hm : P.follows .mixedOrders = true) {t : Nat → Option FnE} (ht : TabOK P t) (fuel : Nat) : ∀ depth, PhiOK P (evP (compRC P) t fuel depth)
  | 0 => fun x args H k h => (no_ne h).elim
  | d + 1 => fun x args H k h => by
    have ih := evP_ok hm ht fuel d
    cases x <;> first | exact (no_ne h).elim | skip
    rotate_left
    · exact evY_ok hm ih h
    rename_i f caps
    have key : ∀ g l, evT t fuel (evP (compRC P) t fuel d) g l H k = 1 → ∃ v H', CallF P g l H v H' ∧ k v H' = 1 := fun g l h => by
      unfold evT at h
      rw [forceN_eq] at h
      cases htf : t g with
      | none => rw [htf] at h; exact (no_ne h).elim
      | some fe =>
        rw [htf] at h
        have h2 : evFn fe fuel (evP (compRC P) t fuel d) l H k = 1 := h
        rcases ht g fe htf with ⟨fn, h3, h4, h5⟩ | ⟨q, rfl, h3⟩
        · exact fn_ok hm ih h3 h4 h5 h2
        · exact h3 _ _ _ (show q l H k = 1 from h2)
    have h' : Nat.rec (motive := fun _ => R) (appL args caps fun args => evT t fuel (evP (compRC P) t fuel d) (Nat.div f 2) args H k) (fun _ _ => appL caps args fun args => evT t fuel (evP (compRC P) t fuel d) (Nat.div f 2) args H k) (Nat.mod f 2) = 1 := h
    rcases (by omega : f % 2 = 0 ∨ f % 2 = 1) with hf | hf
    · rw [show Nat.mod f 2 = 0 from hf] at h'
      have h'' : appL args caps (fun args => evT t fuel (evP (compRC P) t fuel d) (Nat.div f 2) args H k) = 1 := h'
      rw [appL_eq] at h''
      obtain ⟨v, H', h1, h2⟩ := key _ _ h''
      have hq : f = 2 * (f / 2) := by omega
      refine ⟨v, H', ?_, h2⟩
      rw [hq]
      exact CallF.fs h1
    · rw [show Nat.mod f 2 = 1 from hf] at h'
      have h'' : appL caps args (fun args => evT t fuel (evP (compRC P) t fuel d) (Nat.div f 2) args H k) = 1 := h'
      rw [appL_eq] at h''
      obtain ⟨v, H', h1, h2⟩ := key _ _ h''
      have hq : f = 2 * (f / 2) + 1 := by omega
      refine ⟨v, H', ?_, h2⟩
      rw [hq]
      exact CallF.fsb h1

/-! ### the end: a closed call -/
theorem PR.empty (w : World) : PR P w.heap.size w (fun _ => none) H0 w where
  below := Below.refl _ _
  base_le := Nat.le_refl _
  wn := Nat.le_refl _
  dom b c h := by cases h
  inj b b' c h := by cases h
  blk b c h := by cases h
  out b _ := rfl

/-- What the evaluator says of a call of no parameters that answers a bool. -/
noncomputable def isTrue (v : V) (_ : Heap) : R := vBool 0 v fun b => ifB b 1 (no 0)
theorem isTrue_ok {v : V} {H : Heap} (h : isTrue v H = 1) : v = .bool true := by
  obtain ⟨b, rfl, h1⟩ := vBool_ok h
  obtain ⟨h2, _⟩ := ifB_no h1
  rw [h2]
theorem known (hm : P.follows .mixedOrders = true) {t : Nat → Option FnE} (ht : TabOK P t) {fuel depth : Nat} {f : FuncId} {fn : Func} {c : Code} (hf : P.funcs[f]? = some fn) (hb : fn.body = some c) (hn : (fn.name == "runtime.NumGoroutine") = false) (h : evP (compRC P) t fuel depth (.func (2 * f) []) [] H0 isTrue = 1) (w : World) :
    Calls P f #[] w fun e w' => e = .returned (.bool true) ∧ Below w.heap.size w w' := by
  obtain ⟨v, H', h1, h2⟩ := evP_ok hm ht fuel depth _ _ _ _ h
  have := isTrue_ok h2
  subst this
  have h3 := h1.1 none w.heap.size w (fun _ => none) w (.func (.func f) #[] #[]) #[] (PR.empty w) (by simp only [VR]; exact ⟨#[], by simp, by simp only [VRs]⟩) (by simp only [VRs]) { (default : Oper) with dst := some 0 } { tmps := #[undef], defers := [] }
  have he : (do let d ← Deferred.ofValue (.func (.func f) #[] #[]) #[]; invoke d.target d.args : Sem Next).run P w = .ok (.enter f #[]) w := by
    have := run_callFunc hf hb hn #[] w
    simp [Deferred.ofValue, invoke, this]
  rw [he] at h3
  obtain ⟨_, h4⟩ := h3
  refine CallsIn.calls (h4.mono fun e w' he => ?_) fun k => by simp [Fence.room]
  cases e with
  | returned u =>
    obtain ⟨cv, h5, rho', h6, h7, _⟩ := he
    have h8 : u = cv := by simpa [Act.put] using h5
    subst h8
    simp only [VR] at h6
    exact ⟨by rw [h6], h7.below⟩
  | panicked ch => exact he.elim
  | outgrown => obtain ⟨_, _, h⟩ := he; exact h.elim
end
end Go.Ev
