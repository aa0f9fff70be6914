/- A region that loads, and stores back what it has loaded. -/
import Derived.Test.YtaodjhgfhdncgaaGreatDoorEv28
set_option linter.unusedVariables false
set_option linter.unusedSimpArgs false
set_option linter.unusedSectionVars false
namespace Go.Ev
open Go.RowKit

theorem setCell_same {w : World} {a : Addr} {v : Value} (h : w.cell? a = some v) : w.setCell a v = w := by
  unfold World.cell? at h
  unfold World.setCell
  cases ha : w.heap[a.block]? with
  | none => rw [ha] at h; cases h
  | some o =>
    rw [ha] at h
    cases w with
    | mk heap tape drawn os output =>
      congr 1
      apply Array.ext_getElem?
      intro i
      rw [Array.getElem?_modify]
      by_cases hi : a.block = i
      · subst hi
        simp only at ha
        rw [if_pos rfl, ha]
        cases o <;> simp at h ⊢
        rename_i cs e fr
        intro _
        replace h := h.2
        apply Array.ext_getElem?
        intro j
        by_cases hj : a.off = j
        · subst hj
          rw [Array.getElem?_setIfInBounds]
          obtain ⟨hlt, hv⟩ := Array.getElem?_eq_some_iff.1 h
          simp [hlt, hv]
        · rw [Array.getElem?_setIfInBounds_ne hj]
      · rw [if_neg hi]

section
variable {P : Program} {nt : Nat} {id : Nat} {ph : Phi} {e : Env} {H : Heap} {k : K}

theorem store_back {w : World} {g o : Nat} : ∀ (vs : List Value) (i : Nat), (∀ (j : Nat) v, vs[j]? = some v → w.cell? ⟨g, o + i + j, none⟩ = some v ∧ v.oneCell' = true ∧ w.frozen? ⟨g, o + i + j, none⟩ = false) → (storeCells ⟨g, o, none⟩ vs i).run P w = .ok () w
  | [], i, _ => rfl
  | v :: vs, i, h => by
    obtain ⟨h1, h2, h3⟩ := h 0 v rfl
    rw [Nat.add_zero] at h1 h3
    have ih := store_back (w := w) vs (i + 1) fun j u hu => by
      have := h (j + 1) u (by simpa using hu)
      rw [show o + i + (j + 1) = o + (i + 1) + j by omega] at this
      exact this
    simp only [storeCells, Sem.run_bind, Addr.add_lit, run_store P w _ v .plain h2, h1, h3, setCell_same h1]
    simpa using ih

/-- What can be loaded, and stored back. -/
def RdOK (P : Program) (H : Heap) (x : V) (t : TypeId) (v : V) : Prop := ∀ {base : Nat} {w0 w : World} {rho : Nat → Option Nat} {cx : Value}, PR P base w0 rho H w → VR (mu rho H w) x cx → ∃ cv, (Instr.loadAt t cx).run P w = .ok cv w ∧ VR (mu rho H w) v cv ∧ (Instr.storeAt t cx cv).run P w = .ok () w

theorem load_rd {o : Oper} {t : TypeId} {s : Nat} (hop : o.op = .load t (.tmp s)) (h1 : oneT P t = true) (h : evOp (compOp P nt o) id ph e H k = 1) : ∃ v, k v H = 1 ∧ RdOK P H (pget (slotOf s) e) t v := by
  simp only [compOp, hop] at h
  split at h
  · rename_i x' n hx hag hsz
    have hx' : x' = .s (slotOf s) := by
      unfold compArg at hx
      simp only at hx
      split at hx
      · cases hx; rfl
      · cases hx
    subst hx'
    have h' : eLoadA n (.s (slotOf s)) id ph e H k = 1 := h
    unfold eLoadA at h'
    rw [getA_eq] at h'
    obtain ⟨b, off, hb, h1⟩ := vPtr_ok h'
    obtain ⟨row, h2, h3, h4⟩ := loadN_ok h1
    refine ⟨_, h4, fun {base w0 w rho cx} hp vx => ?_⟩
    replace hb : pget (slotOf s) e = .ptr b off := hb
    rw [hb] at vx
    simp only [VR] at vx
    obtain ⟨c, rfl, hm⟩ := vx
    have hr := hp.rho_of hm h2
    obtain ⟨cs, g1, g2, g3⟩ := hp.cells hr h2 h3
    obtain ⟨cs0, el, fr, q1, q2⟩ := hp.row hr h2
    have hle := q2.le
    refine ⟨.agg cs.toArray, by simp [Instr.loadAt, Instr.sureAddr, loadVar, run_isAgg hag, run_sizeOf' hsz, g1], by simp only [VR]; exact ⟨_, rfl, g2⟩, ?_⟩
    have hst : (storeCells ⟨c, off, none⟩ cs 0).run P w = .ok () w := by
      refine store_back cs 0 fun j v hv => ?_
      have hj : j < n := by have := (List.getElem?_eq_some_iff.1 hv).1; omega
      have hcell := run_loadCells_list (P := P) w ⟨c, off, none⟩ ((cs0.toList.drop off).take n) (fun j v hv => by
        rw [Addr.add_lit]
        rw [List.getElem?_take] at hv
        split at hv
        · rw [List.getElem?_drop, Array.getElem?_toList] at hv
          simp [World.cell?, q1, hv]
        · cases hv)
      have hl : ((cs0.toList.drop off).take n).length = n := by simp; omega
      rw [hl, g1] at hcell
      have hcs : cs = (cs0.toList.drop off).take n := by
        injection hcell with e1 e2
        have := congrArg Array.toList e1
        simpa using this
      rw [hcs, List.getElem?_take, if_pos hj, List.getElem?_drop, Array.getElem?_toList] at hv
      have hrow : row[off + j]? = some row[off + j] := List.getElem?_eq_getElem (by omega)
      obtain ⟨a1, cv', a2, a3⟩ := q2.1 (off + j) _ hrow
      rw [hv] at a2
      cases a2
      refine ⟨by simp [World.cell?, q1, hv], one_cell' a3 a1, ?_⟩
      have := q2.2 (off + j) (Array.getElem?_eq_some_iff.1 hv).1
      simp only [World.frozen?, q1]
      simpa using this
    have hcl : cs.toArray.size = n := by simpa using g3
    simp [Instr.storeAt, Instr.sureAddr, storeVar, Value.cells, run_sizeOf' hsz, hcl, hst]
  · rename_i _ x' hx hag
    have hx' : x' = .s (slotOf s) := by
      unfold compArg at hx
      simp only at hx
      split at hx
      · cases hx; rfl
      · cases hx
    subst hx'
    have h' : eLoad1 (.s (slotOf s)) id ph e H k = 1 := h
    unfold eLoad1 at h'
    rw [getA_eq] at h'
    obtain ⟨b, off, hb, h1'⟩ := vPtr_ok h'
    obtain ⟨row, v, h2, h3, h4⟩ := loadC_ok h1'
    refine ⟨_, h4, fun {base w0 w rho cx} hp vx => ?_⟩
    replace hb : pget (slotOf s) e = .ptr b off := hb
    rw [hb] at vx
    simp only [VR] at vx
    obtain ⟨c, rfl, hm⟩ := vx
    have hr := hp.rho_of hm h2
    obtain ⟨cv, g1, g2, g3⟩ := hp.cell hr h2 h3
    obtain ⟨cs0, el, fr, q1, q2⟩ := hp.row hr h2
    have hsz : szT P t = some 1 := by
      unfold oneT at h1
      rw [hag] at h1
      simpa using h1
    refine ⟨cv, by simp [Instr.loadAt, Instr.sureAddr, loadVar, run_isAgg hag, g1], g2, ?_⟩
    have ho := one_cell' g2 g3
    have hcv : cv.cells = #[cv] := by
      obtain ⟨n1, n2⟩ := g2.one g3
      cases cv <;> first | rfl | exact absurd rfl (n1 _) | exact absurd rfl (n2 _)
    have hst : (storeCells ⟨c, off, none⟩ [cv] 0).run P w = .ok () w := by
      refine store_back [cv] 0 fun j v hv => ?_
      cases j with
      | succ j => simp at hv
      | zero =>
        simp at hv
        subst hv
        have hlt : off < cs0.size := by
          have := q2.le
          have := (List.getElem?_eq_some_iff.1 h3).1
          omega
        refine ⟨g1, ho, ?_⟩
        have := q2.2 off hlt
        simp only [World.frozen?, q1, Nat.add_zero]
        simpa using this
    simp [Instr.storeAt, Instr.sureAddr, storeVar, hcv, run_sizeOf' hsz, hst]
  · exact (no_ne h).elim

theorem loadOf_spec {o : Oper} {t : TypeId} {s d : Nat} (h : loadOf o = some (t, s, d)) : o.op = .load t (.tmp s) ∧ o.dst = some d ∧ o.guard = none := by
  unfold loadOf at h
  split at h
  · rename_i h1 h2 h3
    cases h
    exact ⟨h1, h2, h3⟩
  · cases h

/-- Loads, one behind the other. -/
def LoadsTo (P : Program) (nt : Nat) (H : Heap) : List Oper → Env → Env → Prop
  | [], e, e' => e' = e
  | o :: l, e, e' => ∃ (t : TypeId) (s d : Nat) (v : V), loadOf o = some (t, s, d) ∧ s < nt ∧ d < nt ∧ RdOK P H (pget (slotOf s) e) t v ∧ LoadsTo P nt H l (pset (slotOf d) v e) e'

theorem compArg_tmp {s : Nat} {x : Arg} (h : compArg nt (.tmp s) = some x) : s < nt := by
  unfold compArg at h
  simp only at h
  split at h
  · assumption
  · cases h

theorem loads_ok {base : Nat} {ops : Array Oper} : ∀ (l : List Oper) (i : Nat) (r : List OpW) (e : Env) (k : Env → Heap → R), (∀ o ∈ l, isLoad o = true) → (∀ o ∈ l, ∀ (t : TypeId) (s d : Nat), loadOf o = some (t, s, d) → oneT P t = true) → compRegG P nt base ops [] [] #[] l i = some r → evReg ph r e H k = 1 → ∃ e', k e' H = 1 ∧ LoadsTo P nt H l e e'
  | [], i, r, e, k, _, _, hc, h => by
    simp only [compRegG, Option.some.injEq] at hc
    subst hc
    exact ⟨e, h, rfl⟩
  | o :: l, i, r, e, k, hl, h1, hc, h => by
    obtain ⟨⟨t, s, d⟩, hld⟩ := Option.isSome_iff_exists.1 (hl o (List.mem_cons_self ..))
    obtain ⟨hop, hd, hg⟩ := loadOf_spec hld
    simp only [compRegG, hd, hg, guardOf] at hc
    split at hc
    · rename_i dd gg r' hdd hgg hr
      cases hgg
      cases hc
      simp only [dstOf] at hdd
      split at hdd
      · rename_i hdn
        cases hdd
        have h' : evOp (compOp P nt o) (base + i) ph e H (fun v H' => setS (slotOf d) v e fun e' => evReg ph r' e' H' k) = 1 := h
        obtain ⟨v, h2, h3⟩ := load_rd hop (h1 o (List.mem_cons_self ..) t s d hld) h'
        rw [setS_eq] at h2
        have hs : s < nt := by
          have h4 := h'
          simp only [compOp, hop] at h4
          split at h4
          · rename_i hx _ _; exact compArg_tmp hx
          · rename_i hx _; exact compArg_tmp hx
          · exact (no_ne h4).elim
        obtain ⟨e', h5, h6⟩ := loads_ok l (i + 1) r' _ k (fun q hq => hl q (List.mem_cons_of_mem _ hq)) (fun q hq => h1 q (List.mem_cons_of_mem _ hq)) hr h2
        exact ⟨e', h5, t, s, d, v, hld, hs, hdn, h3, h6⟩
      · cases hdd
    · cases hc

theorem LoadsTo.other (hnt : nt ≤ 512) : ∀ {l : List Oper} {e e' : Env}, LoadsTo P nt H l e e' → ∀ x, x < 512 → (∀ o ∈ l, ∀ (t : TypeId) (s d : Nat), loadOf o = some (t, s, d) → d ≠ x) → pget (slotOf x) e' = pget (slotOf x) e
  | [], e, e', h, x, _, _ => by rw [show e' = e from h]
  | o :: l, e, e', h, x, hx, hd => by
    obtain ⟨t, s, d, v, h1, h2, h3, h4, h5⟩ := h
    rw [LoadsTo.other hnt h5 x hx fun q hq => hd q (List.mem_cons_of_mem _ hq), pget_pset, if_neg]
    intro e
    exact hd o (List.mem_cons_self ..) t s d h1 (slotOf_inj hx (by omega) e).symm

theorem LoadsTo.spec (hnt : nt ≤ 512) : ∀ {l : List Oper} {e e' : Env}, LoadsTo P nt H l e e' → (l.filterMap fun o => (loadOf o).map (·.2.2)).Nodup → (∀ o ∈ l, ∀ o' ∈ l, ∀ (t : TypeId) (s d : Nat) (t' : TypeId) (s' d' : Nat), loadOf o = some (t, s, d) → loadOf o' = some (t', s', d') → s ≠ d') →
    ∀ o ∈ l, ∀ (t : TypeId) (s d : Nat), loadOf o = some (t, s, d) → s < nt ∧ d < nt ∧ RdOK P H (pget (slotOf s) e) t (pget (slotOf d) e')
  | [], _, _, _, _, _, o, ho, _, _, _, _ => by cases ho
  | q :: l, e, e', h, hn, hs, o, ho, t, s, d, hld => by
    obtain ⟨t0, s0, d0, v0, h1, h2, h3, h4, h5⟩ := h
    have hn' : d0 ∉ (l.filterMap fun o => (loadOf o).map (·.2.2)) ∧ (l.filterMap fun o => (loadOf o).map (·.2.2)).Nodup := by
      rw [List.filterMap_cons, h1] at hn
      simpa using hn
    rcases List.mem_cons.1 ho with rfl | ho'
    · rw [h1] at hld
      cases hld
      refine ⟨h2, h3, ?_⟩
      rw [LoadsTo.other hnt h5 d (by omega) fun q hq t s d hq' e => hn'.1 (List.mem_filterMap.2 ⟨q, hq, by rw [hq', e]; rfl⟩), pget_pset, if_pos rfl]
      exact h4
    · obtain ⟨g1, g2, g3⟩ := LoadsTo.spec hnt h5 hn'.2 (fun a ha b hb => hs a (List.mem_cons_of_mem _ ha) b (List.mem_cons_of_mem _ hb)) o ho' t s d hld
      refine ⟨g1, g2, ?_⟩
      have hsd := hs o ho q (List.mem_cons_self ..) t s d t0 s0 d0 hld h1
      rw [pget_pset, if_neg] at g3
      · exact @g3
      · intro e
        exact hsd (slotOf_inj (by omega) (by omega) e)

/-- In whatever order: the loads are done, and nothing is changed. -/
theorem back_ok {ops : Array Oper} {base bid : Nat} {r : List OpW} {k : Env → Heap → R} (hm : P.follows .mixedOrders = true) (hb : backOK P ops = true)
    (hc : compRegG P nt base ops [] [] #[] (ops.toList.filter isLoad) 0 = some r) (h : evReg ph r e H k = 1) : ∃ e', NS P nt (.region bid ops true) e H e' H ∧ k e' H = 1 := by
  unfold backOK at hb
  simp only [Bool.and_eq_true, decide_eq_true_eq, List.all_eq_true] at hb
  obtain ⟨⟨⟨hed, hall⟩, hnd⟩, hads⟩ := hb
  have hads' : ∀ o ∈ ops.toList, ∀ (t : TypeId) (s d : Nat), loadOf o = some (t, s, d) → s ∉ loadDsts ops ∧ oneT P t = true := fun o ho t s d hl => by
    have := hads o ho
    rw [hl] at this
    simpa using this
  obtain ⟨e', h1, h2⟩ := loads_ok (ops.toList.filter isLoad) 0 r e k (fun o ho => (List.mem_filter.1 ho).2) (fun o ho t s d hl => (hads' o (List.mem_filter.1 ho).1 t s d hl).2) hc h
  refine ⟨e', fun rd b0 w0 rho w a hp ht Q hQ => ?_, h1⟩
  have hnt := ht.le
  have hfm : (ops.toList.filter isLoad).filterMap (fun o => (loadOf o).map (·.2.2)) = loadDsts ops := by
    unfold loadDsts
    rw [List.filterMap_filter]
    congr 1
    funext o
    unfold isLoad
    cases loadOf o <;> rfl
  have hmemd : ∀ o ∈ ops.toList, ∀ (t : TypeId) (s d : Nat), loadOf o = some (t, s, d) → d ∈ loadDsts ops := fun o ho t s d hl => List.mem_filterMap.2 ⟨o, ho, by rw [hl]; rfl⟩
  have hspec := LoadsTo.spec hnt h2 (by rw [hfm]; exact hnd) fun o ho o' ho' t s d t' s' d' hl hl' e => (hads' o (List.mem_filter.1 ho).1 t s d hl).1 (by rw [e]; exact hmemd o' (List.mem_filter.1 ho').1 t' s' d' hl')
  have hE := edges_of hed
  refine wpIn_region_any hm ?_
  have hp1 : PR P b0 w0 rho H { w with drawn := w.drawn + 1 } := hp.drawn _
  have ht1 : TR (mu rho H { w with drawn := w.drawn + 1 }) nt e a.tmps := ht
  have x1 : Ext rho H w rho H { w with drawn := w.drawn + 1 } := ⟨Nat.le_refl _, Nat.le_refl _, Nat.le_refl _, fun _ _ _ => ⟨rfl, rfl⟩, fun _ _ _ h => h, fun _ _ h _ => h, fun _ _ h => h, fun b c hb h => absurd (hp.lt b c h) (by omega), fun _ _ _ => rfl, fun b hb => ⟨hb, rfl, fun _ _ => rfl⟩, fun c cs e fr hc => ⟨cs, e, fr, hc, rfl⟩⟩
  generalize hw1 : ({ w with drawn := w.drawn + 1 } : World) = w1 at hp1 ht1 x1 ⊢
  have hQ' : ∀ a', a'.defers = a.defers → TR (mu rho H w1) nt e' a'.tmps → Q .normal a' w1 := fun a' g1 g2 => hQ a' w1 rho g1 hp1 g2 x1
  clear hQ hp ht hw1
  have hsize := ht1.size
  -- what each load gives
  have hrd : ∀ o ∈ ops.toList, ∀ (t : TypeId) (s d : Nat), loadOf o = some (t, s, d) → s < nt ∧ d < nt ∧ ∃ cv, (Instr.loadAt t (a.eval (.tmp s))).run P w1 = .ok cv w1 ∧ VR (mu rho H w1) (pget (slotOf d) e') cv ∧ (Instr.storeAt t (a.eval (.tmp s)) cv).run P w1 = .ok () w1 := fun o ho t s d hl => by
    obtain ⟨g1, g2, g3⟩ := hspec o (List.mem_filter.2 ⟨ho, by unfold isLoad; rw [hl]; rfl⟩) t s d hl
    have hlt : s < a.tmps.size := by omega
    have hex : a.tmps[s]? = some a.tmps[s] := Array.getElem?_eq_getElem hlt
    have hev : a.eval (.tmp s) = a.tmps[s] := by simp [Act.eval, hex]
    obtain ⟨cv, q1, q2, q3⟩ := g3 hp1 (ht1.get s _ hex)
    rw [← hev] at q1 q3
    exact ⟨g1, g2, cv, q1, q2, q3⟩
  let Dn : Array Bool → Nat → Prop := fun listed t => ∃ (j : Nat) (o : Oper) (ty : TypeId) (s : Nat), ops[j]? = some o ∧ loadOf o = some (ty, s, t) ∧ Been listed j
  let Inv : Array Bool → Act → Prop := fun listed a' => a'.defers = a.defers ∧ a'.tmps.size = nt ∧ (∀ t : Nat, ¬ Dn listed t → a'.tmps[t]? = a.tmps[t]?) ∧ ∀ (j : Nat) (o : Oper) (ty : TypeId) (s d : Nat), ops[j]? = some o → loadOf o = some (ty, s, d) → Been listed j → ∃ cv, a'.tmps[d]? = some cv ∧ (Instr.loadAt ty (a.eval (.tmp s))).run P w1 = .ok cv w1
  have fin : ∀ listed a', Inv listed a' → (∀ i, i < ops.size → Been listed i) → Q .normal a' w1 := fun listed a' ⟨g1, g2, g3, g4⟩ hb => by
    refine hQ' a' g1 ⟨g2, hnt, fun t v hv => ?_, fun t q1 q2 => ?_⟩
    · have htn : t < nt := by rw [← g2]; exact (Array.getElem?_eq_some_iff.1 hv).1
      by_cases hd : Dn listed t
      · obtain ⟨j, o, ty, s, q1, q2, q3⟩ := hd
        obtain ⟨cv, q4, q5⟩ := g4 j o ty s t q1 q2 q3
        rw [hv] at q4
        cases q4
        obtain ⟨_, _, cv', q6, q7, _⟩ := hrd o (by rw [← Array.getElem?_toList] at q1; exact List.mem_of_getElem? q1) ty s t q2
        rw [q5] at q6
        cases q6
        exact q7
      · rw [g3 t hd] at hv
        rw [LoadsTo.other hnt h2 t (by omega) fun o ho ty s d hl e => hd ?_]
        · exact ht1.get t v hv
        · obtain ⟨j, hj⟩ := List.getElem?_of_mem (List.mem_filter.1 ho).1
          have hj' : ops[j]? = some o := by rw [← Array.getElem?_toList]; exact hj
          exact ⟨j, o, ty, s, hj', by rw [hl, e], hb j (Array.getElem?_eq_some_iff.1 hj').1⟩
    · rw [LoadsTo.other hnt h2 t q2 fun o ho ty s d hl e => ?_]
      · exact ht1.rest t q1 q2
      · have := (hrd o (List.mem_filter.1 ho).1 ty s d hl).2.1
        omega
  have walk : ∀ (fuel : Nat) (listed : Array Bool) (a' : Act), listed.size = ops.size → Inv listed a' → listed.toList.count false = fuel → wpAnyIn (WF rd) 0 P .any ops Q fuel listed a' w1 := by
    have hready : ∀ (listed : Array Bool), Region.ready .any ops listed = [] → listed.size = ops.size → ∀ i, i < ops.size → Been listed i := fun listed hr hsz i => by
      induction i using Nat.strongRecOn with
      | _ i ih =>
        intro hi
        by_cases hb : Been listed i
        · exact hb
        · have ho : ops[i]? = some ops[i] := Array.getElem?_eq_getElem hi
          have hmem : i ∈ Region.ready .any ops listed := mem_ready.2 ⟨by
            have hex : listed[i]? = some listed[i] := Array.getElem?_eq_getElem (by omega)
            unfold Been at hb
            rw [Array.getD_eq_getD_getElem?, hex] at hb ⊢
            simpa using hb, _, ho, fun e he hbd => ih e.on (hE i _ ho e (by simpa using he) hbd) (by have := hE i _ ho e (by simpa using he) hbd; omega)⟩
          rw [hr] at hmem
          cases hmem
    intro fuel
    induction fuel with
    | zero =>
      intro listed a' hsz hI hc
      have hall' : ∀ i, i < ops.size → Been listed i := fun i hi => by
        have hlt : i < listed.size := by rw [hsz]; exact hi
        have hex : listed[i]? = some listed[i] := Array.getElem?_eq_getElem hlt
        unfold Been
        rw [Array.getD_eq_getD_getElem?, hex, Option.getD_some]
        cases hv : listed[i] with
        | true => rfl
        | false =>
          have : false ∈ listed.toList := by rw [← hv]; simp
          rw [List.count_eq_zero] at hc
          exact absurd this hc
      refine ⟨?_, fin listed a' hI hall'⟩
      refine List.eq_nil_iff_forall_not_mem.2 fun i hi => ?_
      obtain ⟨h1, o, ho, _⟩ := mem_ready.1 hi
      have hb := hall' i (Array.getElem?_eq_some_iff.1 ho).1
      have hlt : i < listed.size := by rw [hsz]; exact (Array.getElem?_eq_some_iff.1 ho).1
      have hex : listed[i]? = some listed[i] := Array.getElem?_eq_getElem hlt
      unfold Been at hb
      rw [Array.getD_eq_getD_getElem?, hex, Option.getD_some] at hb h1
      rw [hb] at h1
      cases h1
    | succ fuel ih =>
      intro listed a' hsz hI hc
      refine ⟨fun hr => fin listed a' hI (hready listed hr hsz), fun i hi => ?_⟩
      obtain ⟨h1, o, ho, hr0⟩ := mem_ready.1 hi
      have hin : i < ops.size := (Array.getElem?_eq_some_iff.1 ho).1
      have hil : i < listed.size := by rw [hsz]; exact hin
      have hex : listed[i]? = some listed[i] := Array.getElem?_eq_getElem hil
      have hv : listed[i] = false := by rw [Array.getD_eq_getD_getElem?, hex, Option.getD_some] at h1; exact h1
      have hnb : ¬ Been listed i := by unfold Been; rw [Array.getD_eq_getD_getElem?, hex, Option.getD_some, hv]; simp
      have hc' : (listed.setIfInBounds i true).toList.count false = fuel := by
        have := count_set (l := listed.toList) (i := i) (by simpa [hv] using hex)
        rw [Array.toList_setIfInBounds]
        omega
      have hsz' : (listed.setIfInBounds i true).size = ops.size := by simpa using hsz
      have hmem : o ∈ ops.toList := by rw [← Array.getElem?_toList] at ho; exact List.mem_of_getElem? ho
      obtain ⟨g1, g2, g3, g4⟩ := hI
      have heval : ∀ s : Nat, s ∉ loadDsts ops → a'.eval (.tmp s) = a.eval (.tmp s) := fun s hs => by
        have := g3 s fun ⟨j, q, ty, s', q1, q2, _⟩ => hs (hmemd q (by rw [← Array.getElem?_toList] at q1; exact List.mem_of_getElem? q1) ty s' s q2)
        simp [Act.eval, this]
      unfold wpOpIn
      simp only [ho]
      cases hlo : loadOf o with
      | some q =>
        obtain ⟨ty, s, d⟩ := q
        obtain ⟨hop, hd, hg⟩ := loadOf_spec hlo
        obtain ⟨_, hdn, cv, q1, q2, _⟩ := hrd o hmem ty s d hlo
        have hw : Region.wanted o (yielded ops a'.tmps) = true := by simp [Region.wanted, hg]
        rw [if_pos hw]
        refine ⟨about_any P o a' w1 rd, ?_⟩
        rw [semAt_eq (by simp [hop])]
        have hex2 : (execOp a'.eval o).run P w1 = .ok (.value cv) w1 := by
          simp only [execOp, hop, Sem.run_bind, heval s (hads' o hmem ty s d hlo).1, q1, Result.andThen_ok, Sem.run_pure]
        rw [hex2]
        show wpAnyIn (WF rd) 0 P .any ops Q fuel (listed.setIfInBounds i true) (a'.put o.dst cv) w1
        rw [hd]
        refine ih _ _ hsz' ⟨g1, by simpa [Act.put] using g2, fun t htd => ?_, fun j o' ty' s' d' r1 r2 r3 => ?_⟩ hc'
        · have hne : d ≠ t := fun e => htd ⟨i, o, ty, s, ho, by rw [hlo, e], (been_set hil).2 (Or.inl rfl)⟩
          simp only [Act.put, Array.getElem?_setIfInBounds_ne hne]
          exact g3 t fun ⟨j, q, ty', s', r1, r2, r3⟩ => htd ⟨j, q, ty', s', r1, r2, (been_set hil).2 (Or.inr r3)⟩
        · by_cases hdd : d = d'
          · subst hdd
            refine ⟨cv, by simp [Act.put, g2, hdn], ?_⟩
            rcases (been_set hil).1 r3 with rfl | r3
            · rw [ho] at r1; cases r1
              rw [hlo] at r2; cases r2
              exact q1
            · obtain ⟨cv', r4, r5⟩ := g4 j o' ty' s' d r1 r2 r3
              -- two loads into one name: there are none
              have hji : j = i := by
                have hnd' : ∀ (l : List Oper) (x y : Nat) (ox oy : Oper), (l.filterMap fun o => (loadOf o).map (·.2.2)).Nodup → l[x]? = some ox → l[y]? = some oy → (loadOf ox).map (·.2.2) = some d → (loadOf oy).map (·.2.2) = some d → x = y := by
                  intro l
                  induction l with
                  | nil => intro x y ox oy _ hx; simp at hx
                  | cons z l ihl =>
                    intro x y ox oy hnn hx hy hox hoy
                    have htail : (l.filterMap fun o => (loadOf o).map (·.2.2)).Nodup := by
                      rw [List.filterMap_cons] at hnn
                      split at hnn
                      · exact hnn
                      · exact (List.nodup_cons.1 hnn).2
                    cases x with
                    | zero =>
                      cases y with
                      | zero => rfl
                      | succ y =>
                        simp at hx hy
                        subst hx
                        rw [List.filterMap_cons, hox] at hnn
                        exact absurd (List.mem_filterMap.2 ⟨oy, List.mem_of_getElem? hy, hoy⟩) (List.nodup_cons.1 hnn).1
                    | succ x =>
                      cases y with
                      | zero =>
                        simp at hx hy
                        subst hy
                        rw [List.filterMap_cons, hoy] at hnn
                        exact absurd (List.mem_filterMap.2 ⟨ox, List.mem_of_getElem? hx, hox⟩) (List.nodup_cons.1 hnn).1
                      | succ y =>
                        simp at hx hy
                        rw [ihl x y ox oy htail hx hy hox hoy]
                exact hnd' ops.toList j i o' o hnd (by simpa using r1) (by simpa using ho) (by rw [r2]; rfl) (by rw [hlo]; rfl)
              exact absurd (hji ▸ r3) hnb
          · rcases (been_set hil).1 r3 with rfl | r3
            · rw [ho] at r1; cases r1
              rw [hlo] at r2; cases r2
              exact absurd rfl hdd
            · obtain ⟨cv', r4, r5⟩ := g4 j o' ty' s' d' r1 r2 r3
              exact ⟨cv', by simp only [Act.put, Array.getElem?_setIfInBounds_ne hdd]; exact r4, r5⟩
      | none =>
        have hbk : backOf ops o = true := by
          have := hall o hmem
          unfold isLoad at this
          rw [hlo] at this
          simpa using this
        unfold backOf at hbk
        split at hbk
        · rename_i ty s d hop hd hg
          rw [List.any_eq_true] at hbk
          obtain ⟨ed, he1, he2⟩ := hbk
          rw [Bool.and_eq_true] at he2
          obtain ⟨hbind, he3⟩ := he2
          split at he3
          · rename_i o2 ho2
            have hl2 : loadOf o2 = some (ty, s, d) := by simpa using he3
            have hbn : Been listed ed.on := hr0 ed (by simpa using he1) hbind
            obtain ⟨cv, r4, r5⟩ := g4 _ o2 ty s d ho2 hl2 hbn
            have hmem2 : o2 ∈ ops.toList := by rw [← Array.getElem?_toList] at ho2; exact List.mem_of_getElem? ho2
            obtain ⟨_, hdn, cv', q1, q2, q3⟩ := hrd o2 hmem2 ty s d hl2
            rw [r5] at q1
            cases q1
            have hw : Region.wanted o (yielded ops a'.tmps) = true := by simp [Region.wanted, hg]
            rw [if_pos hw]
            refine ⟨about_any P o a' w1 rd, ?_⟩
            rw [semAt_eq (by simp [hop])]
            have hev : a'.eval (.tmp d) = cv := by simp [Act.eval, r4]
            have hex2 : (execOp a'.eval o).run P w1 = .ok .skip w1 := by
              simp only [execOp, hop, Sem.run_bind, heval s (hads' o2 hmem2 ty s d hl2).1, hev, q3, Result.andThen_ok, Sem.run_pure]
            rw [hex2]
            show wpAnyIn (WF rd) 0 P .any ops Q fuel (listed.setIfInBounds i true) (a'.put o.dst undef) w1
            rw [hd]
            refine ih _ _ hsz' ⟨g1, g2, fun t htd => ?_, fun j o' ty' s' d' r1 r2 r3 => ?_⟩ hc'
            · exact g3 t fun ⟨j, q, ty', s', r1, r2, r3⟩ => htd ⟨j, q, ty', s', r1, r2, (been_set hil).2 (Or.inr r3)⟩
            · rcases (been_set hil).1 r3 with rfl | r3
              · rw [ho] at r1; cases r1
                rw [hlo] at r2; cases r2
              · exact g4 j o' ty' s' d' r1 r2 r3
          · cases he3
        · cases hbk
  refine walk ops.size _ a (by simp) ⟨rfl, hsize, fun _ _ => rfl, fun j o ty s d _ _ hb => ?_⟩ (by simp [List.count_replicate])
  unfold Been at hb
  rw [Array.getD_eq_getD_getElem?, Array.getElem?_replicate] at hb
  split at hb <;> cases hb
end
end Go.Ev
