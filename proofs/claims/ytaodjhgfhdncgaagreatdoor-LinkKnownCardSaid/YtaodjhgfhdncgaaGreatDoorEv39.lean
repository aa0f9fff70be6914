/- slices.Insert ahead of all, and slices.Grow of nothing, taken by what is known of them. -/
import Derived.Test.YtaodjhgfhdncgaaGreatDoorEv38
import Derived.Laws.NewBlocks
import Derived.Laws.IdiomCopy
set_option linter.unusedVariables false
set_option linter.unusedSimpArgs false
set_option linter.unusedSectionVars false
namespace Go.Ev
open Go.RowKit

/-- slices.Insert at 0, of elements of a cell each: into nothing, or into a row whose capacity is not known. -/
noncomputable def insG (row : List V) (vb vn : Nat) (s : V) (H : Heap) (k : K) : R := vSliceN 0 s
  (fun b o len cp sz => ifB (Nat.beq b vb) (no 0) (ifB (Nat.beq o 0) (ifB (Nat.beq cp 0) (ifB (Nat.blt 0 len) (ifB (Nat.ble len 65536) (ifB (Nat.beq sz 1) (hGet H b fun bl => bOn 0 bl (fun l => ifB (Nat.beq (lenL l) len) (allOne 0 l (appL row l fun l' => hSet 0 H b .dead fun H => hNew H (.cells l') fun b' H => k (.slice b' 0 (Nat.add len vn) 0 1) H)) (no 0)) (fun _ _ => no 0)) (no 0)) (no 0)) (no 0)) (no 0)) (no 0)))
  (hNew H (.cells row) fun b' H => k (.slice b' 0 vn 0 1) H)
noncomputable def nInsert (args : List V) (H : Heap) (k : K) : R := List.rec (motive := fun _ => R) (no 0) (fun s r _ => List.rec (motive := fun _ => R) (no 0) (fun i r2 _ => List.rec (motive := fun _ => R) (no 0) (fun v r3 _ => List.rec (motive := fun _ => R)
  (vInt 0 i fun ki i => ifB (Nat.beq ki 3) (ifB (Nat.beq i 0) (vSliceN 0 v (fun vb vo vn _ _ => ifB (Nat.blt 0 vn) (ifB (Nat.ble vn 65536) (hGet H vb fun bl => bOn 0 bl (fun _ => loadN 0 H vb vo vn fun row => allOne 0 row (insG row vb vn s H k)) (fun _ _ => no 0)) (no 0)) (no 0)) (no 0)) (no 0)) (no 0)) (fun _ _ _ => no 0) r3) r2) r) args

theorem nInsert_ok {args : List V} {H : Heap} {k : K} (h : nInsert args H k = 1) : ∃ s vb vo vn vc vz row, args = [s, .int 3 0, .slice vb vo vn vc vz] ∧ 0 < vn ∧ vn ≤ 65536 ∧ (∃ l, rowOf (H.get vb) = some l ∧ vo + vn ≤ l.length ∧ row = (l.drop vo).take vn) ∧ (∀ v ∈ row, v.one = true) ∧ (∃ q, H.get vb = .cells q) ∧ insG row vb vn s H k = 1 := by
  match args, h with
  | [], h => exact (no_ne h).elim
  | [x], h => exact (no_ne h).elim
  | [x, y], h => exact (no_ne h).elim
  | x :: y :: z :: q :: r, h => exact (no_ne h).elim
  | [s, i, v], h =>
    obtain ⟨ki, n, rfl, h1⟩ := vInt_ok (id := 0) (x := i) (k := fun ki i => ifB (Nat.beq ki 3) (ifB (Nat.beq i 0) (vSliceN 0 v (fun vb vo vn _ _ => ifB (Nat.blt 0 vn) (ifB (Nat.ble vn 65536) (hGet H vb fun bl => bOn 0 bl (fun _ => loadN 0 H vb vo vn fun row => allOne 0 row (insG row vb vn s H k)) (fun _ _ => no 0)) (no 0)) (no 0)) (no 0)) (no 0)) (no 0)) h
    obtain ⟨h2, h3⟩ := ifB_no h1
    obtain ⟨h4, h5⟩ := ifB_no h3
    obtain rfl := beq_of h2
    obtain rfl := beq_of h4
    rcases vSliceN_ok h5 with ⟨vb, vo, vn, vc, vz, rfl, h6⟩ | ⟨_, h6⟩
    · obtain ⟨h7, h8⟩ := ifB_no h6
      obtain ⟨h9, h10⟩ := ifB_no h8
      rw [hGet_eq] at h10
      rcases bOn_ok h10 with ⟨q, hq, h10⟩ | ⟨_, _, _, h10⟩
      rotate_left
      · exact (no_ne h10).elim
      obtain ⟨l, h11, h12, h13⟩ := loadN_ok h10
      obtain ⟨h14, h15⟩ := allOne_ok h13
      exact ⟨s, vb, vo, vn, vc, vz, _, rfl, blt_of h7, ble_of h9, ⟨l, h11, h12, rfl⟩, h14, ⟨q, hq⟩, h15⟩
    · exact (no_ne h6).elim

/-- What is asked of slices.Insert's contract: elements of a cell each, at the beginning. -/
structure InsertOK (P : Program) (f : FuncId) : Prop where
  hfn : ∃ fn c, P.funcs[f]? = some fn ∧ fn.body = some c ∧ (fn.name == "runtime.NumGoroutine") = false
  hnil : ∀ (vb voff m vc : Nat) (vs : List Value) (w : World), 0 < m → m ≤ 65536 → m ≤ vc → vs.length = m → (∀ (j : Nat) v, vs[j]? = some v → w.cell? ⟨vb, voff + j, none⟩ = some v) → (∀ v ∈ vs, v.oneCell' = true) →
    Calls P f #[.slice none 0 0, .int .i64 0, .slice (some ⟨vb, voff, none⟩) m vc] w fun e w' => ∃ (cap : Nat) (rest : Array Value) (el : TypeId), e = .returned (.slice (some ⟨w.heap.size, 0, none⟩) m cap) ∧ m ≤ cap ∧ cap < 9223372036854775808 ∧ rest.size = cap - m ∧ Same w w' ∧ w'.heap = w.heap.push (.cells (vs.toArray ++ rest) el)
  hrow : ∀ (b n c vb voff m vc : Nat) (cs vs : List Value) (cur vcur : Array Value) (el vel : TypeId) (fr vfr : Nat × Nat) (w : World), vb ≠ b → 0 < n → n ≤ 65536 → 0 < m → m ≤ 65536 → n ≤ c → c < 9223372036854775808 → m ≤ vc →
    w.heap[b]? = some (.cells cur el fr) → cur.size = c → (∀ i, i < cur.size → ¬ (fr.1 ≤ i ∧ i < fr.2)) → w.heap[vb]? = some (.cells vcur vel vfr) → (∀ i, i < vcur.size → ¬ (vfr.1 ≤ i ∧ i < vfr.2)) → ¬ (vfr.1 ≤ vcur.size ∧ vcur.size < vfr.2) →
    cs.length = n → (∀ (j : Nat) v, cs[j]? = some v → cur[j]? = some v) → (∀ v ∈ cs, v.oneCell' = true) → vs.length = m → (∀ (j : Nat) v, vs[j]? = some v → vcur[voff + j]? = some v) → (∀ v ∈ vs, v.oneCell' = true) →
    Calls P f #[.slice (some ⟨b, 0, none⟩) n c, .int .i64 0, .slice (some ⟨vb, voff, none⟩) m vc] w fun e w' =>
      (∃ cur' : Array Value, n + m ≤ c ∧ e = .returned (.slice (some ⟨b, 0, none⟩) (n + m) c) ∧ w'.heap[b]? = some (.cells cur' el fr) ∧ cur'.size = c ∧ (∀ (j : Nat) v, (vs ++ cs)[j]? = some v → cur'[j]? = some v) ∧ (∀ j, j ≠ b → w'.heap[j]? = w.heap[j]?) ∧ w'.heap.size = w.heap.size ∧ Same w w') ∨
      (∃ (cap : Nat) (row : Array Value) (el' : TypeId), e = .returned (.slice (some ⟨w.heap.size, 0, none⟩) (n + m) cap) ∧ n + m ≤ cap ∧ cap < 9223372036854775808 ∧ row.size = cap ∧ (∀ (j : Nat) v, (vs ++ cs)[j]? = some v → row[j]? = some v) ∧ Same w w' ∧ w'.heap.size = w.heap.size + 1 ∧ w'.heap[w.heap.size]? = some (.cells row el') ∧ ∀ j, j < w.heap.size → w'.heap[j]? = w.heap[j]?)

theorem InsertOK.nat {P : Program} {f : FuncId} (hj : InsertOK P f) : NatOK P f nInsert := fun args H k h => by
  obtain ⟨s, vb, vo, vn, vc, vz, row, rfl, hv0, hvb, ⟨l, hl1, hl2, hl3⟩, hone, ⟨qv, hqv⟩, h1⟩ := nInsert_ok h
  obtain ⟨fn, c, hf, hbd, hn⟩ := hj.hfn
  -- the variadic row, in a world
  have hvar : ∀ {base : Nat} {w0 w : World} {rho : Nat → Option Nat} {cv : Value}, PR P base w0 rho H w → VR (mu rho H w) (.slice vb vo vn vc vz) cv →
      ∃ cb cap vcur vel vfr vs, cv = .slice (some ⟨cb, vo, none⟩) vn cap ∧ vn ≤ cap ∧ rho vb = some cb ∧ w.heap[cb]? = some (.cells vcur vel vfr) ∧ (∀ i, i < vcur.size → ¬ (vfr.1 ≤ i ∧ i < vfr.2)) ∧ vs.length = vn ∧ VRs (mu rho H w) row vs ∧ (∀ (j : Nat) v, vs[j]? = some v → vcur[vo + j]? = some v) ∧ (∀ v ∈ vs, v.oneCell' = true) := fun {base w0 w rho cv} hp hv => by
    simp only [VR] at hv
    obtain ⟨cb, cap, o', rfl, hm, hle, hcp, ho⟩ := hv
    have ho' : o' = vo := by
      rcases ho with h | h
      · exact h
      · omega
    subst ho'
    have hr := hp.rho_of hm hl1
    obtain ⟨vcur, vel, vfr, g1, g2⟩ := hp.row hr hl1
    have hvr := g2.vrs hl2
    rw [← hl3] at hvr
    have hrl : row.length = vn := by rw [hl3, List.length_take, List.length_drop]; omega
    refine ⟨cb, cap, vcur, vel, vfr, (vcur.toList.drop o').take vn, rfl, hle, hr, g1, g2.2, by rw [hvr.length, hrl], hvr, fun j v hj => ?_, vrs_one hvr hone⟩
    rw [List.getElem?_take] at hj
    split at hj
    · rw [List.getElem?_drop, Array.getElem?_toList] at hj
      exact hj
    · cases hj
  rcases vSliceN_ok h1 with ⟨b, o, len, cp, sz, rfl, h2⟩ | ⟨rfl, h2⟩
  · -- ahead of a row
    rcases ifB_or h2 with ⟨_, h3⟩ | ⟨hbv, h3⟩
    · exact (no_ne h3).elim
    have hbne : b ≠ vb := fun e => by subst e; rw [beq_dec] at hbv; simp at hbv
    obtain ⟨h4, h5⟩ := ifB_no h3
    obtain ⟨h6, h7⟩ := ifB_no h5
    obtain ⟨h8, h9⟩ := ifB_no h7
    obtain ⟨h10, h11⟩ := ifB_no h9
    obtain ⟨h12, h13⟩ := ifB_no h11
    obtain rfl := beq_of h4
    obtain rfl := beq_of h6
    obtain rfl := beq_of h12
    have hlen0 : 0 < len := blt_of h8
    have hlenb : len ≤ 65536 := ble_of h10
    rw [hGet_eq] at h13
    rcases bOn_ok h13 with ⟨l0, hb, h14⟩ | ⟨_, _, _, h14⟩
    rotate_left
    · exact (no_ne h14).elim
    obtain ⟨h15, h16⟩ := ifB_no h14
    have hl0 : l0.length = len := by have := beq_of h15; rwa [lenL_eq] at this
    obtain ⟨hone0, h17⟩ := allOne_ok h16
    rw [appL_eq] at h17
    obtain ⟨H1, h18, hS⟩ := hSet_ok h17
    obtain ⟨H2, h19, hN⟩ := hNew_ok h18
    have hbn := hS.lt
    rw [hS.n] at h19
    refine ⟨_, H2, fun base w0 rho w cargs hp hv => ?_, h19⟩
    simp only [VRs] at hv
    obtain ⟨c1, r1, e1, v1, c2, r2, rfl, v2, c3, r3, rfl, v3, rfl⟩ := hv
    obtain ⟨cb, vcap, vcur, vel, vfr, vs, rfl, hvle, hrv, g1, g2, g3, g4, g5, g6⟩ := hvar hp v3
    simp only [VR] at v1 v2
    obtain ⟨cc, cap, o', rfl, hm, hle, hcp, ho⟩ := v1
    obtain ⟨rfl, _⟩ := v2
    have ho' : o' = 0 := by
      rcases ho with h | h
      · exact h
      · omega
    subst ho'
    have hrow : rowOf (H.get b) = some l0 := by rw [hb]; rfl
    have hr := hp.rho_of hm hrow
    have hc : cargs = #[.slice (some ⟨cc, 0, none⟩) len cap, .int .i64 0, .slice (some ⟨cb, vo, none⟩) vn vcap] := by apply Array.ext'; exact e1
    subst hc
    have hcb : cb ≠ cc := fun e => hbne (hp.inj b vb cc hr (e ▸ hrv))
    obtain ⟨cur, el, fr, k1, k2⟩ := hp.row hr hrow
    obtain ⟨hz, hcb63⟩ : cur.size = cap ∧ cap < 9223372036854775808 := by
      rcases hcp.2 trivial with h | ⟨⟨cs2, e2, fr2, h, h'⟩, h''⟩
      · omega
      · rw [k1] at h; cases h; exact ⟨by omega, h''⟩
    have hvr := k2.vrs (o := 0) (n := l0.length) (by omega)
    rw [List.drop_zero, List.take_length] at hvr
    have hns : ¬ (vfr.1 ≤ vcur.size ∧ vcur.size < vfr.2) := hp.nstr hrv hqv g1
    refine ⟨run_callFunc hf hbd hn _ _, ?_⟩
    have hcall := hj.hrow cc len cap cb vo vn vcap ((cur.toList.drop 0).take l0.length) vs cur vcur el vel fr vfr w hcb hlen0 hlenb hv0 hvb hle hcb63 hvle k1 hz k2.2 g1 g2 hns (by rw [hvr.length, hl0]) (fun j v hj => by
      rw [List.getElem?_take] at hj
      split at hj
      · rw [List.drop_zero, Array.getElem?_toList] at hj
        exact hj
      · cases hj) (vrs_one hvr hone0) g3 g5 g6
    refine CallsIn.mono (callsIn_wide.2 hcall) ?_
    have hall := g4.append hvr
    have hone' : ∀ v ∈ row ++ l0, v.one = true := fun v hv => (List.mem_append.1 hv).elim (hone v) (hone0 v)
    have hRow : ∀ (c' : Array Value) (fr' : Nat × Nat), (∀ (j : Nat) v, (vs ++ (cur.toList.drop 0).take l0.length)[j]? = some v → c'[j]? = some v) → (∀ i, i < c'.size → ¬ (fr'.1 ≤ i ∧ i < fr'.2)) → RowR (mu rho H w) (row ++ l0) c' fr' := fun c' fr' q1 q2 => by
      refine ⟨fun j v hj => ⟨hone' v (List.mem_of_getElem? hj), ?_⟩, q2⟩
      obtain ⟨cv, t1, t2⟩ := hall.get hj
      exact ⟨cv, q1 j cv t1, t2⟩
    have hg2 : H2.get b = .dead := by rw [hN.oth b (by rw [hS.n]; omega)]; exact hS.get
    have hgo : ∀ j, j ≠ b → j ≠ H.n → H2.get j = H.get j := fun j hj1 hj2 => by rw [hN.oth j (by rw [hS.n]; exact hj2)]; exact hS.oth j hj1
    have hgn : H2.get H.n = .cells (row ++ l0) := by rw [← hS.n]; exact hN.get
    have hcl := (hp.dom b cc hr).2.2.1
    rintro e w' (⟨cur', q0, rfl, q1, q2, q3, q4, q5, q6⟩ | ⟨cap', nrow, el', rfl, q1, q1', q2, q3, q4, q5, q6, q7⟩)
    · obtain ⟨p1, p2⟩ := hp.move (H' := H2) (w' := w') (c' := cc) (o := .cells cur' el fr) hr (by rw [hb]; intro e; cases e) (by rw [hN.n, hS.n]) (by rw [hN.wlo]; exact hS.wlo) (by rw [hN.wlo]; exact hS.wb) hg2 hgn hgo trivial q6 (by omega) (Or.inl rfl) (by omega) q1 (fun j _ hj => q4 j hj)
        ⟨cur', el, fr, rfl, hRow cur' fr q3 (by rw [q2, ← hz]; exact k2.2), by rw [q2, ← hz]; exact hp.nstr hr hb k1⟩ (fun cs2 e2 fr2 h => by rw [k1] at h; cases h; exact ⟨cur', el, fr, q1, by omega⟩)
      refine ⟨_, rfl, _, ?_, p1, p2⟩
      simp only [VR]
      refine ⟨cc, cap, 0, rfl, ⟨by rw [hN.n, hS.n]; omega, fun _ => by simp⟩, by show len + vn ≤ cap; exact q0, ⟨fun q hq => absurd hq (by omega), fun _ => Or.inr ⟨⟨cur', el, fr, q1, by omega⟩, hcb63⟩⟩, Or.inl rfl⟩
    · obtain ⟨p1, p2⟩ := hp.move (H' := H2) (w' := w') (c' := w.heap.size) (o := .cells nrow el') hr (by rw [hb]; intro e; cases e) (by rw [hN.n, hS.n]) (by rw [hN.wlo]; exact hS.wlo) (by rw [hN.wlo]; exact hS.wb) hg2 hgn hgo trivial q4 (by omega) (Or.inr (Nat.le_refl _)) (by omega) q6 (fun j hj _ => q7 j hj)
        ⟨nrow, el', (0, 0), rfl, hRow nrow (0, 0) q3 (by simp), by simp⟩ (fun cs2 e2 fr2 h => ⟨cs2, e2, fr2, (q7 cc hcl).trans h, rfl⟩)
      refine ⟨_, rfl, _, ?_, p1, p2⟩
      simp only [VR]
      refine ⟨w.heap.size, cap', 0, rfl, ⟨by rw [hN.n, hS.n]; omega, fun _ => by simp⟩, by show len + vn ≤ cap'; exact q1, ⟨fun q hq => absurd hq (by omega), fun _ => Or.inr ⟨⟨nrow, el', _, q6, by omega⟩, q1'⟩⟩, Or.inl rfl⟩
  · -- into nothing
    obtain ⟨H', h3, hN⟩ := hNew_ok h2
    refine ⟨_, H', fun base w0 rho w cargs hp hv => ?_, h3⟩
    simp only [VRs] at hv
    obtain ⟨c1, r1, e1, v1, c2, r2, rfl, v2, c3, r3, rfl, v3, rfl⟩ := hv
    obtain ⟨cb, vcap, vcur, vel, vfr, vs, rfl, hvle, hrv, g1, g2, g3, g4, g5, g6⟩ := hvar hp v3
    simp only [VR] at v1 v2
    obtain rfl := v1
    obtain ⟨rfl, _⟩ := v2
    have hc : cargs = #[.slice none 0 0, .int .i64 0, .slice (some ⟨cb, vo, none⟩) vn vcap] := by apply Array.ext'; exact e1
    subst hc
    refine ⟨run_callFunc hf hbd hn _ _, ?_⟩
    refine CallsIn.mono (callsIn_wide.2 (hj.hnil cb vo vn vcap vs w hv0 hvb hvle g3 (fun j v hj => by simp [World.cell?, g1, g5 j v hj]) g6)) ?_
    rintro e w' ⟨cap, rest, el, rfl, q1, q1', q2, q3, q4⟩
    have hR : RowR (mu rho H w) row (vs.toArray ++ rest) (0, 0) := by
      refine ⟨fun j v hj => ⟨hone v (List.mem_of_getElem? hj), ?_⟩, fun _ _ => by simp⟩
      obtain ⟨cv, t1, t2⟩ := g4.get hj
      have hjl := (List.getElem?_eq_some_iff.1 t1).1
      exact ⟨cv, by rw [Array.getElem?_append_left (by simpa using hjl)]; simpa using t1, t2⟩
    obtain ⟨rho', p1, p2, p3⟩ := hp.fresh (w' := w') hN rfl (fun _ _ e => nomatch e) hR q3 q4
    refine ⟨_, rfl, rho', ?_, p1, p2⟩
    simp only [VR]
    exact ⟨_, cap, 0, rfl, p3, q1, ⟨fun q hq => absurd hq (by omega), fun _ => Or.inr ⟨⟨_, _, _, by rw [q4, Array.getElem?_push_size], by simp only [Array.size_append, List.size_toArray, g3, q2]; omega⟩, q1'⟩⟩, Or.inl rfl⟩

/-- Cells of a row that are written, one behind the other. -/
theorem setCells_row {b : Nat} {el : TypeId} {fr : Nat × Nat} : ∀ (vs : List Value) (o : Nat) (w : World) (cur : Array Value), w.heap[b]? = some (.cells cur el fr) → o + vs.length ≤ cur.size →
    ∃ cur' : Array Value, (w.setCells b o vs).heap[b]? = some (.cells cur' el fr) ∧ cur'.size = cur.size ∧ (∀ j, cur'[j]? = if o ≤ j ∧ j < o + vs.length then vs[j - o]? else cur[j]?) ∧ (∀ j, j ≠ b → (w.setCells b o vs).heap[j]? = w.heap[j]?) ∧ (w.setCells b o vs).heap.size = w.heap.size ∧ Same w (w.setCells b o vs)
  | [], o, w, cur, h, _ => ⟨cur, h, rfl, fun j => by rw [if_neg]; simp, fun _ _ => rfl, rfl, ⟨rfl, rfl, rfl⟩⟩
  | v :: vs, o, w, cur, h, hle => by
    simp only [List.length_cons] at hle
    have hb : b < w.heap.size := (Array.getElem?_eq_some_iff.1 h).1
    have h1 : (w.setCell ⟨b, o, none⟩ v).heap[b]? = some (.cells (cur.setIfInBounds o v) el fr) := by
      simp [World.setCell, Array.getElem?_modify, h]
    have h2 : ∀ j, j ≠ b → (w.setCell ⟨b, o, none⟩ v).heap[j]? = w.heap[j]? := fun j hj => by
      simp [World.setCell, Array.getElem?_modify, Ne.symm hj]
    have h3 : (w.setCell ⟨b, o, none⟩ v).heap.size = w.heap.size := by simp [World.setCell]
    obtain ⟨cur', g1, g2, g3, g4, g5, g6⟩ := setCells_row vs (o + 1) (w.setCell ⟨b, o, none⟩ v) (cur.setIfInBounds o v) h1 (by simp; omega)
    refine ⟨cur', g1, by rw [g2]; simp, fun j => ?_, fun j hj => (g4 j hj).trans (h2 j hj), g5.trans h3, ⟨g6.os, g6.tape, g6.output⟩⟩
    rw [g3 j]
    simp only [List.length_cons]
    by_cases hj : j = o
    · subst hj
      rw [if_neg (by omega), if_pos (by omega), Array.getElem?_setIfInBounds_self_of_lt (by omega)]
      simp
    · rw [Array.getElem?_setIfInBounds_ne (Ne.symm hj)]
      by_cases hin : o + 1 ≤ j ∧ j < o + 1 + vs.length
      · rw [if_pos hin, if_pos (by omega), show j - o = (j - (o + 1)) + 1 by omega]
        simp
      · rw [if_neg hin, if_neg (by omega)]
end Go.Ev
