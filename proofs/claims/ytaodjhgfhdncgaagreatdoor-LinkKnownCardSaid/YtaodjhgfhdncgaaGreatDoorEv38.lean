/- maps.Copy: its loop, as a relation between worlds. -/
import Derived.Test.YtaodjhgfhdncgaaGreatDoorEv37
import Derived.Maps.RangeRun
set_option linter.unusedVariables false
set_option linter.unusedSimpArgs false
set_option linter.unusedSectionVars false
namespace Go.Ev
open Go.RowKit Go.MapKept Go.WideShapes Go.ChangeMaps

/-- A store into a map, as a run. -/
theorem mapUpdate_run {P : Program} {m : M} {t kt el : TypeId} {d : TypeDesc} {w : World} {bd cD : Nat} {D : Array MapEntry} {esd : List (V × V)} {x y : V} {kx vy : Value}
    (hu : P.underlying t = some (.map kt el)) (hd1 : P.underlying kt = some d) (hd2 : KeyD false d) (g1 : w.heap[bd]? = some (.map D cD)) (g2 : Ents m esd D.toList) (gs : Stamps D cD) (go : KeysOK (esd.map (·.1)))
    (hk : ∀ p ∈ esd, KdK false x p.1) (hx : ∃ q n, x = .int q n) (hvx : VR m x kx) (hvy : VR m y vy) :
    ∃ (D' : Array MapEntry) (cD' : Nat) (esd' : List (V × V)), (Instr.mapUpdate t (.map (some bd)) kx vy).run P w = .ok () { w with heap := w.heap.setIfInBounds bd (.map D' cD') } ∧ Ents m esd' D'.toList ∧ Stamps D' cD' ∧ KeysOK (esd'.map (·.1)) ∧ ∀ p, p ∈ esd' ↔ p = (x, y) ∨ (p.1 ≠ x ∧ p ∈ esd) := by
  obtain ⟨q, n, hxe⟩ := hx
  by_cases hin : ∃ v, (x, v) ∈ esd
  · obtain ⟨v, hv⟩ := hin
    obtain ⟨i, cv, en, f1, f2, f3, f4, f5⟩ := find_hit hvx hd2 0 hv go.1 hk g2
    have hen : D[i]? = some en := by simpa using f4
    have hmod : (D.modify i fun e => { e with key := kx, val := vy }).toList = D.toList.set i { en with key := kx, val := vy } := by
      rw [Array.toList_modify]
      refine List.ext_getElem? fun k => ?_
      rw [List.getElem?_modify, List.getElem?_set]
      by_cases hik : i = k
      · subst hik
        have hlt : i < D.toList.length := (List.getElem?_eq_some_iff.1 f4).1
        simp only [if_true, f4, Option.map_some, hlt]
        simp
      · simp [hik]
    have h7 : esd.Perm ((x, v) :: esd.eraseIdx i) := perm_erase f3
    have h8 : (esd.set i (x, y)).Perm ((x, y) :: esd.eraseIdx i) := perm_set f3
    refine ⟨D.modify i fun e => { e with key := kx, val := vy }, cD, esd.set i (x, y), ?_, by rw [hmod]; exact Ents.set hvx hvy g2, stamps_set hen gs hmod, keys_swap h7 h8 go, over_one go (Or.inl ⟨v, _, h7, h8⟩)⟩
    simp only [Instr.mapUpdate, Sem.run_bind, run_underlying hu, Result.andThen_ok, Ev.run_getObj g1 (by simp), run_checkKey hd1 hd2, run_findKey hd1 f1, Nat.zero_add, hen, Option.map_some, Option.getD_some, Instr.keyThatStays, f5, if_true, Sem.run_pure, Ev.run_setObj g1 (by simp)]
  · have hno : ∀ p ∈ esd, p.1 ≠ x := fun p hp e => hin ⟨p.2, by rw [← e]; exact hp⟩
    have f1 := find_miss hvx hd2 0 hno hk g2
    have h8 : (esd ++ [(x, y)]).Perm ((x, y) :: esd) := List.perm_append_singleton _ _
    refine ⟨D.push { key := kx, val := vy, born := cD }, cD + 1, esd ++ [(x, y)], ?_, by rw [Array.toList_push]; exact Ents.snoc hvx hvy g2, stamps_push gs, keys_new hno h8 (Or.inl ⟨q, n, n, hxe, hxe⟩) hk go, over_one go (Or.inr ⟨hno, h8⟩)⟩
    simp only [Instr.mapUpdate, Sem.run_bind, run_underlying hu, Result.andThen_ok, Ev.run_getObj g1 (by simp), run_checkKey hd1 hd2, run_findKey hd1 f1, Ev.run_setObj g1 (by simp)]

theorem eq_of_key : ∀ {es : List (V × V)} {p q : V × V}, (es.map (·.1)).Nodup → p ∈ es → q ∈ es → p.1 = q.1 → p = q
  | [], _, _, _, h, _, _ => by cases h
  | a :: es, p, q, hn, hp, hq, e => by
    rw [List.map_cons, List.nodup_cons] at hn
    rcases List.mem_cons.1 hp with h1 | h1
    · rcases List.mem_cons.1 hq with h2 | h2
      · rw [h1, h2]
      · exact absurd (List.mem_map.2 ⟨q, h2, by rw [← e, h1]⟩) hn.1
    · rcases List.mem_cons.1 hq with h2 | h2
      · exact absurd (List.mem_map.2 ⟨p, h1, by rw [e, h2]⟩) hn.1
      · exact eq_of_key hn.2 h1 h2 e

/-- What has been seen of the source. -/
def SeenP (S : Array MapEntry) (ess : List (V × V)) (seen : Array Nat) (p : V × V) : Prop := ∃ (i : Nat) (e : MapEntry), ess[i]? = some p ∧ S.toList[i]? = some e ∧ seen.contains e.born = true

/-- The loop's relation. -/
structure CpI (m : M) (w : World) (bd bs cS : Nat) (S : Array MapEntry) (esd ess : List (V × V)) (seen : Array Nat) (esd' : List (V × V)) (D' : Array MapEntry) (cD' : Nat) (wr : World) : Prop where
  it : wr.heap[w.heap.size]? = some (.mapIter (some bs) cS seen cS)
  src : wr.heap[bs]? = some (.map S cS)
  dst : wr.heap[bd]? = some (.map D' cD')
  ents : Ents m esd' D'.toList
  st : Stamps D' cD'
  keys : KeysOK (esd'.map (·.1))
  over : ∀ p, p ∈ esd' ↔ SeenP S ess seen p ∨ ((∀ q, SeenP S ess seen q → q.1 ≠ p.1) ∧ p ∈ esd)
  frame : ∀ j, j < w.heap.size → j ≠ bd → wr.heap[j]? = w.heap[j]?
  size : wr.heap.size = w.heap.size + 1
  same : Same w wr

section
variable {m : M} {w : World} {bd bs cS : Nat} {S : Array MapEntry} {esd ess : List (V × V)}
variable (hne : bd ≠ bs) (hS : Ents m ess S.toList) (sS : Stamps S cS) (kS : KeysOK (ess.map (·.1))) (hint : ∀ p ∈ ess, ∃ q n, p.1 = V.int q n) (hkd : ∀ p ∈ ess, ∀ q ∈ esd, KdK false p.1 q.1)
include hne hS sS kS hint hkd

theorem CpI.start {D : Array MapEntry} {cD : Nat} (hd : w.heap[bd]? = some (.map D cD)) (hs : w.heap[bs]? = some (.map S cS)) (eD : Ents m esd D.toList) (sD : Stamps D cD) (kD : KeysOK (esd.map (·.1))) :
    CpI m w bd bs cS S esd ess #[] esd D cD (w.alloc (.mapIter (some bs) cS #[] cS)) where
  it := World.alloc_heap_new w _
  src := (Below.heap_alloc w _ bs (Array.getElem?_eq_some_iff.1 hs).1).trans hs
  dst := (Below.heap_alloc w _ bd (Array.getElem?_eq_some_iff.1 hd).1).trans hd
  ents := eD
  st := sD
  keys := kD
  over p := by
    have hno : ∀ q, ¬ SeenP S ess #[] q := fun q ⟨i, e, _, _, h⟩ => by simp at h
    exact ⟨fun h => Or.inr ⟨fun q hq => (hno q hq).elim, h⟩, fun h => h.elim (fun h => (hno p h).elim) (fun h => h.2)⟩
  frame j hj _ := Below.heap_alloc w _ j hj
  size := by simp
  same := ⟨rfl, rfl, rfl⟩

theorem CpI.kd {seen : Array Nat} {esd' : List (V × V)} {D' : Array MapEntry} {cD' : Nat} {wr : World} (h : CpI m w bd bs cS S esd ess seen esd' D' cD' wr) {x : V} (hx : ∃ y, (x, y) ∈ ess) : ∀ q ∈ esd', KdK false x q.1 := fun q hq => by
  obtain ⟨y, hy⟩ := hx
  rcases (h.over q).1 hq with ⟨i, e, h1, h2, h3⟩ | ⟨_, h2⟩
  · have hqm : q ∈ ess := List.mem_of_getElem? h1
    obtain ⟨a, n, e1⟩ := hint _ hy
    obtain ⟨b, n', e2⟩ := hint _ hqm
    have := kS.2 x (List.mem_map.2 ⟨_, hy, rfl⟩) q.1 (List.mem_map.2 ⟨_, hqm, rfl⟩)
    simp only at e1
    subst e1
    rw [e2] at this ⊢
    rcases this with ⟨k, a', b', e3, e4⟩ | ⟨l, a', m', b', e3, e4⟩
    · cases e3; cases e4; exact Or.inl ⟨rfl, _, _, _, rfl, rfl⟩
    · cases e3
  · exact hkd _ hy _ h2

/-- One round: the step, then the store. -/
theorem CpI.round {P : Program} {t kt el : TypeId} {d : TypeDesc} (hu : P.underlying t = some (.map kt el)) (hd1 : P.underlying kt = some d) (hd2 : KeyD false d) {seen : Array Nat} {esd' : List (V × V)} {D' : Array MapEntry} {cD' : Nat} {wr : World} (h : CpI m w bd bs cS S esd ess seen esd' D' cD' wr) (hbs : bs < w.heap.size) (hbd : bd < w.heap.size) (ty : TypeId) :
    ((leftOf S seen).size = 0 ∧ (Instr.next (.pointer (some ⟨w.heap.size, 0, none⟩)) false ty).run P wr = .ok (.tuple #[.bool false]) wr ∧ Over ess esd esd') ∨
    ∃ (kx vy : Value) (w1 w2 : World) (seen2 : Array Nat) (esd2 : List (V × V)) (D2 : Array MapEntry) (cD2 : Nat), (Instr.next (.pointer (some ⟨w.heap.size, 0, none⟩)) false ty).run P wr = .ok (.tuple #[.bool true, kx, vy]) w1 ∧
      (Instr.entry (.pointer (some ⟨w.heap.size, 0, none⟩))).run P w1 = .ok (.tuple #[kx, vy]) w1 ∧ (Instr.mapUpdate t (.map (some bd)) kx vy).run P w1 = .ok () w2 ∧
      CpI m w bd bs cS S esd ess seen2 esd2 D2 cD2 w2 ∧ (leftOf S seen2).size < (leftOf S seen).size := by
  rcases run_next_at (P := P) wr ty w.heap.size bs cS cS seen S cS h.it h.src sS.2 (Nat.le_refl _) with ⟨h0, hrun⟩ | ⟨e, he, w1, hal, hrun⟩
  · refine Or.inl ⟨h0, hrun, fun p => ?_⟩
    have hall := all_seen S seen h0
    have hsp : ∀ p, SeenP S ess seen p ↔ p ∈ ess := fun p => ⟨fun ⟨i, e, h1, _, _⟩ => List.mem_of_getElem? h1, fun hp => by
      obtain ⟨i, hi⟩ := List.getElem?_of_mem hp
      obtain ⟨en, h1, _, _⟩ := hS.get hi
      exact ⟨i, en, hi, h1, hall en (List.mem_of_getElem? h1)⟩⟩
    rw [h.over p, hsp p]
    refine or_congr Iff.rfl (and_congr ⟨fun h1 hm => ?_, fun h1 q hq e => ?_⟩ Iff.rfl)
    · obtain ⟨q, hq, e⟩ := List.mem_map.1 hm
      exact h1 q ((hsp q).2 hq) e
    · exact h1 (List.mem_map.2 ⟨q, (hsp q).1 hq, e⟩)
  · obtain ⟨hem, hes⟩ := mem_left he
    obtain ⟨i, hi⟩ := List.getElem?_of_mem hem
    have hil : i < ess.length := by rw [← hS.length]; exact (List.getElem?_eq_some_iff.1 hi).1
    obtain ⟨en, hen, vx, vy⟩ := hS.get (i := i) (p := ess[i]) (List.getElem?_eq_getElem hil)
    obtain rfl : e = en := Option.some.inj (hi.symm.trans hen)
    have hmem : ess[i] ∈ ess := List.getElem_mem hil
    have hsz1 : w1.heap = wr.heap := by rcases hal with rfl | rfl <;> rfl
    have hsa1 : Same wr w1 := by rcases hal with rfl | rfl <;> exact ⟨rfl, rfl, rfl⟩
    have hset := heap_set (w := w1) (o' := .mapIter (some bs) cS (seen.push e.born) cS) (hsz1 ▸ h.it)
    have hold : ∀ j, j ≠ w.heap.size → (setBlock w1 w.heap.size (.mapIter (some bs) cS (seen.push e.born) cS)).heap[j]? = wr.heap[j]? := fun j hj => (hset.2 j hj).trans (by rw [hsz1])
    have hdst1 := (hold bd (by omega)).trans h.dst
    have hsrc1 := (hold bs (by omega)).trans h.src
    have hkd' := h.kd hne hS sS kS hint hkd (x := ess[i].1) ⟨ess[i].2, hmem⟩
    obtain ⟨D2, cD2, esd2, u1, u2, u3, u4, u5⟩ := mapUpdate_run (P := P) hu hd1 hd2 hdst1 h.ents h.st h.keys hkd' (hint _ hmem) vx vy
    refine Or.inr ⟨_, _, _, _, seen.push e.born, esd2, D2, cD2, hrun, run_entry_at _ w.heap.size bs cS seen S cS e hset.1 hsrc1 hem sS.1, u1, ?_, left_shrinks S seen e he⟩
    have hsz2 : (setBlock w1 w.heap.size (.mapIter (some bs) cS (seen.push e.born) cS)).heap.size = w.heap.size + 1 := by
      show (w1.heap.setIfInBounds _ _).size = _
      rw [Array.size_setIfInBounds, hsz1, h.size]
    have hset2 := heap_set (w := setBlock w1 w.heap.size (.mapIter (some bs) cS (seen.push e.born) cS)) (o' := .map D2 cD2) hdst1
    have hseen : ∀ p, SeenP S ess (seen.push e.born) p ↔ p = ess[i] ∨ SeenP S ess seen p := fun p => by
      constructor
      · rintro ⟨j, e', h1, h2, h3⟩
        rw [contains_push] at h3
        rcases Bool.or_eq_true .. ▸ h3 with h4 | h4
        · exact Or.inr ⟨j, e', h1, h2, h4⟩
        · have hb : e'.born = e.born := by simpa using h4
          have hij : j = i := by
            refine (List.getElem?_inj (l := S.toList.map (·.born)) (by rw [List.length_map]; exact (List.getElem?_eq_some_iff.1 h2).1) sS.1).1 ?_
            rw [List.getElem?_map, List.getElem?_map, h2, hi]
            exact congrArg some hb
          subst hij
          rw [List.getElem?_eq_getElem hil] at h1
          exact Or.inl (Option.some.inj h1).symm
      · rintro (rfl | ⟨j, e', h1, h2, h3⟩)
        · exact ⟨i, e, List.getElem?_eq_getElem hil, hi, by rw [contains_push]; simp⟩
        · exact ⟨j, e', h1, h2, by rw [contains_push, h3]; rfl⟩
    exact {
      it := (hset2.2 _ (by omega)).trans hset.1
      src := (hset2.2 _ (Ne.symm hne)).trans hsrc1
      dst := hset2.1
      ents := u2
      st := u3
      keys := u4
      over := fun p => by
        rw [u5 p, h.over p, hseen p]
        constructor
        · rintro (rfl | ⟨h1, h2 | ⟨h2, h3⟩⟩)
          · exact Or.inl (Or.inl rfl)
          · exact Or.inl (Or.inr h2)
          · refine Or.inr ⟨fun q hq => ?_, h3⟩
            rcases (hseen q).1 hq with rfl | hq
            · exact Ne.symm h1
            · exact h2 q hq
        · rintro ((rfl | h1) | ⟨h1, h2⟩)
          · exact Or.inl rfl
          · by_cases hp : p.1 = ess[i].1
            · have hpm : p ∈ ess := by obtain ⟨j, e', g1, _, _⟩ := h1; exact List.mem_of_getElem? g1
              refine Or.inl ?_
              by_cases hpe : p = ess[i]
              · exact hpe
              · exact absurd (eq_of_key kS.1 hpm hmem hp) hpe
            · exact Or.inr ⟨hp, Or.inl h1⟩
          · exact Or.inr ⟨Ne.symm (h1 _ ((hseen _).2 (Or.inl rfl))), Or.inr ⟨fun q hq => h1 q ((hseen q).2 (Or.inr hq)), h2⟩⟩
      frame := fun j hj hjd => (hset2.2 j hjd).trans ((hold j (by omega)).trans (h.frame j hj hjd))
      size := by show (Array.setIfInBounds _ _ _).size = _; rw [Array.size_setIfInBounds]; exact hsz2
      same := ⟨hsa1.os.trans h.same.os, hsa1.tape.trans h.same.tape, hsa1.output.trans h.same.output⟩ }
end
end Go.Ev
