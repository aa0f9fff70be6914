/- LD: a part of the evaluator, of its logic, or of the laws' walk in it. -/
import Derived.Test.YtmegpbadkojhbaaDoorLC
set_option linter.unusedVariables false
set_option linter.unusedSimpArgs false
set_option linter.unusedSectionVars false
section
namespace Go.Ev
theorem del_enc : ∀ {D : List (Nat × Tx)} {a id : Nat} {f : List (V × V) → R}, delL id false (encM (encS D)) (.int 3 a) f = f (encM (encS (del D a)))
  | [], a, id, f => rfl
  | (b, v) :: D, a, id, f => by
    show ifB (Nat.beq a b) (f (encM (encS D))) (delL id false (encM (encS D)) (.int 3 a) fun r => f ((.int 3 b, sv v) :: r)) = _
    rw [ifB_if, del_enc]
    simp only [nbeq, del]
    by_cases h : a = b
    · rw [if_pos h, if_pos h]
    · rw [if_neg h, if_neg h]
      rfl
theorem find_del : ∀ {es : List (Nat × Tx)} {a k : Nat}, (es.map (·.1)).Nodup → find (del es a) k = if k = a then none else find es k
  | [], a, k, _ => by simp [del, find]
  | p :: es, a, k, h => by
    rw [List.map_cons, List.nodup_cons] at h
    have ih := find_del (es := es) (a := a) (k := k) h.2
    have hk : find es p.1 = none := by
      unfold find
      rw [Option.map_eq_none_iff, List.find?_eq_none]
      intro x hx he
      exact h.1 (List.mem_map.2 ⟨x, hx, by simpa using he⟩)
    have hc : ∀ (l : List (Nat × Tx)), find (p :: l) k = if p.1 = k then some p.2 else find l k := fun l => by
      unfold find
      rw [List.find?_cons]
      by_cases he : p.1 = k
      · simp [he]
      · have : (p.1 == k) = false := by simpa using he
        simp [this, he]
    unfold del
    by_cases ha : a = p.1
    · rw [if_pos ha, hc, ha]
      by_cases he : k = p.1
      · rw [he, if_pos rfl, hk]
      · rw [if_neg he, if_neg (fun e => he e.symm)]
    · rw [if_neg ha, hc, hc, ih]
      by_cases he : p.1 = k
      · rw [if_pos he, if_pos he, if_neg (by omega)]
      · rw [if_neg he, if_neg he]
theorem del_sub : ∀ {es : List (Nat × Tx)} {a : Nat} {x : Nat × Tx}, x ∈ del es a → x ∈ es
  | [], a, x, h => h
  | p :: es, a, x, h => by
    unfold del at h
    split at h
    · exact List.mem_cons_of_mem _ h
    · rcases List.mem_cons.1 h with rfl | h
      · exact List.mem_cons_self ..
      · exact List.mem_cons_of_mem _ (del_sub h)
theorem del_nodup : ∀ {es : List (Nat × Tx)} {a : Nat}, (es.map (·.1)).Nodup → ((del es a).map (·.1)).Nodup
  | [], a, h => h
  | p :: es, a, h => by
    rw [List.map_cons, List.nodup_cons] at h
    unfold del
    split
    · exact h.2
    · rw [List.map_cons, List.nodup_cons]
      refine ⟨fun hm => ?_, del_nodup h.2⟩
      obtain ⟨x, hx, e⟩ := List.mem_map.1 hm
      exact h.1 (List.mem_map.2 ⟨x, del_sub hx, e⟩)
theorem EsOK.del {len : Nat} {es : List (Nat × Tx)} (h : EsOK len es) (a : Nat) : EsOK len (del es a) := ⟨del_nodup h.nodup, fun e he => h.lt e (del_sub he)⟩
theorem copy_enc : ∀ {l acc : List (Nat × Tx)} {f : List (V × V) → R}, copyL (encM (encS l)) (encM (encS acc)) f = f (encM (encS (laid acc l)))
  | [], acc, f => rfl
  | (a, v) :: l, acc, f => by
    show vInt 0 (.int 3 a) (fun _ _ => setL 0 false (encM (encS acc)) (.int 3 a) (sv v) fun acc' => copyL (encM (encS l)) acc' f) = _
    show setL 0 false (encM (encS acc)) (.int 3 a) (sv v) (fun acc' => copyL (encM (encS l)) acc' f) = _
    rw [setL_enc, upd_encS, copy_enc]
    rfl
theorem nCopyM_map {a b : Nat} {H : Heap} {k : K} {l acc : List (Nat × Tx)} (hw : H.wf) (hab : a ≠ b) (ha : H.get a = .map (encM (encS acc))) (han : a < H.n) (hb : H.get b = .map (encM (encS l))) :
    nCopyM [.map a, .map b] H k = k (.tup []) (H.put a (.map (encM (encS (laid acc l))))) := by
  show vMap 0 (.map a) (fun a => vMap 0 (.map b) fun b => ifB (Nat.beq a b) (no 0) (hGet H a fun ba => bMap 0 ba fun ea => hGet H b fun bb => bMap 0 bb fun eb => copyL eb ea fun res => hSet 0 H a (.map res) fun H' => k (.tup []) H')) = _
  show ifB (Nat.beq a b) (no 0) (hGet H a fun ba => bMap 0 ba fun ea => hGet H b fun bb => bMap 0 bb fun eb => copyL eb ea fun res => hSet 0 H a (.map res) fun H' => k (.tup []) H') = _
  rw [ifB_if, if_neg (by simp only [nbeq]; exact hab), hGet_eq, ha]
  show hGet H b (fun bb => bMap 0 bb fun eb => copyL eb (encM (encS acc)) fun res => hSet 0 H a (.map res) fun H' => k (.tup []) H') = _
  rw [hGet_eq, hb]
  show copyL (encM (encS l)) (encM (encS acc)) (fun res => hSet 0 H a (.map res) fun H' => k (.tup []) H') = _
  rw [copy_enc, hSet_put hw han]
abbrev Un := Nat × Tx × Bool
theorem encU_cons (u : Un) (us : List Un) : encU (u :: us) = .int 3 u.1 :: sv u.2.1 :: .bool u.2.2 :: encU us := rfl
theorem encU_append (a b : List Un) : encU (a ++ b) = encU a ++ encU b := by simp only [encU, List.flatMap_append]
theorem encU_drop (us : List Un) (i : Nat) : (encU us).drop (i * 3) = encU (us.drop i) := by
  induction us generalizing i with
  | nil => simp [encU]
  | cons u us ih =>
    cases i with
    | zero => simp
    | succ i => rw [show (i + 1) * 3 = i * 3 + 1 + 1 + 1 by omega, encU_cons, List.drop_succ_cons, List.drop_succ_cons, List.drop_succ_cons, List.drop_succ_cons, ih]
theorem encU_at {us : List Un} {i : Nat} {u : Un} (h : us[i]? = some u) : (encU us)[i * 3]? = some (.int 3 u.1) ∧ (encU us)[i * 3 + 1]? = some (sv u.2.1) ∧ (encU us)[i * 3 + 2]? = some (.bool u.2.2) ∧ ∃ r, (encU us).drop (i * 3) = .int 3 u.1 :: sv u.2.1 :: .bool u.2.2 :: r := by
  have hd : us.drop i = u :: us.drop (i + 1) := by
    obtain ⟨hi, rfl⟩ := List.getElem?_eq_some_iff.1 h
    exact List.drop_eq_getElem_cons hi
  have h1 := encU_drop us i
  rw [hd, encU_cons] at h1
  have g : ∀ j, (encU us)[i * 3 + j]? = (V.int 3 u.1 :: sv u.2.1 :: V.bool u.2.2 :: encU (us.drop (i + 1)))[j]? := fun j => by rw [← h1, List.getElem?_drop]
  exact ⟨g 0, g 1, g 2, _, h1⟩
def AD.written (A : AD) (n a : Nat) : Tx := match (A.us.drop (n + 1)).find? (fun u => u.1 == a) with
  | some u => u.2.1
  | none => (find A.es a).getD (0, 0)
section
variable {cp : RC → CodeE} {t : Nat → Option FnE} {fuel : Nat} {H : Heap}
theorem written_loop {p n ub o m : Nat} {D : DR} {es : List (Nat × Tx)} {us : List Un} {nu : Nat} {u0 : Un} (hg : H.get p = D.blk) (hp : p < H.n) (hu : D.u = .slice ub 0 nu 0 3) (hub : H.get ub = .cells (encU us)) (hubn : ub < H.n) (hnu : nu = us.length) (hnb : nu < 1000000) (hn : us[n]? = some u0) (ho : o = (n + 1) * 3) (hm : m = nu - (n + 1)) :
    ∀ (q j : Nat) (G : Heap), j + q = m → Fresh H G →
    ∃ G', Fresh H G' ∧ ∀ (ph : Phi) (kx : Nat → KE) (rr : Nat) (e : Env), q < rr → pget ⟨.i0, .i0, .i0⟩ e = .ptr p 0 → pget ⟨.i0, .i0, .i1⟩ e = .int 3 n → pget ⟨.i0, .i1, .i5⟩ e = .slice ub o m 0 3 → pget ⟨.i0, .i1, .i6⟩ e = .int 3 m → pget ⟨.i0, .i1, .i7⟩ e = .int 3 j →
      ∀ x : R, (∀ u, (us.drop (n + 1 + j)).find? (fun u => u.1 == u0.1) = some u → ∀ e', pget ⟨.i0, .i0, .i4⟩ e' = sv u.2.1 → kx 0 e' G' = x) → ((us.drop (n + 1 + j)).find? (fun u => u.1 == u0.1) = none → ∀ e', pget ⟨.i0, .i0, .i0⟩ e' = .ptr p 0 → pget ⟨.i0, .i0, .i1⟩ e' = .int 3 n → kx 1 e' G' = x) →
      evL c38l0 fuel ph kx rr e G = x := by
  intro q
  have hnl : n < us.length := (List.getElem?_eq_some_iff.1 hn).1
  induction q with
  | zero =>
    intro j G hj f
    refine ⟨G, f, fun ph kx rr e hrr h0 h1 h15 h16 h17 x _ hT => ?_⟩
    obtain ⟨rr, rfl⟩ : ∃ q, rr = q + 1 := ⟨rr - 1, by omega⟩
    have hjm : j = m := by omega
    have e1 : ¬ m < m := by omega
    have n1 : nn m := by unfold nn; omega
    subst hjm
    rw [evL_succ]
    simp only [go_sem, reduceCtorEq, Nat.reduceAdd, Nat.reduceSub, Nat.reduceMul, Nat.reduceEqDiff, Nat.reduceLT, Nat.reduceDiv, Nat.reduceMod, Nat.reduceLeDiff, ↓reduceIte, c38l0, h0, h1, h15, h16, h17, e1, n1]
    refine hT ?_ _ (by simp only [go_sem, reduceCtorEq, ↓reduceIte, h0]) (by simp only [go_sem, reduceCtorEq, ↓reduceIte, h1])
    rw [List.drop_eq_nil_of_le (by omega)]
    rfl
  | succ q ih =>
    intro j G hj f
    have hlt : j < m := by omega
    have hw := f.wf
    obtain ⟨u, hu1⟩ : ∃ u, us[n + 1 + j]? = some u := ⟨_, List.getElem?_eq_getElem (by omega)⟩
    obtain ⟨a0, a1, a2, r, a3⟩ := encU_at hu1
    obtain ⟨b0, b1, b2, _, _⟩ := encU_at hn
    have hdr : us.drop (n + 1 + j) = u :: us.drop (n + 1 + (j + 1)) := by
      obtain ⟨hi, rfl⟩ := List.getElem?_eq_some_iff.1 hu1
      exact List.drop_eq_getElem_cons hi
    have hel := encU_length us
    have hgp : G.get p = D.blk := (f.same p hp).trans hg
    have hgu : G.get ub = .cells (encU us) := (f.same ub hubn).trans hub
    generalize hG1 : (G.new (.cells [.int 3 0, .str 0 0, .bool false])).put G.n (.cells [.int 3 u.1, sv u.2.1, .bool u.2.2]) = G1
    have f1 : Fresh H G1 := by rw [← hG1]; exact Fresh.put (f.trans (Fresh.new hw)) f.n (by rw [Heap.n_new]; omega)
    have e8 : G.n < G.n + 1 := by omega
    have g1n : G1.get G.n = .cells [.int 3 u.1, sv u.2.1, .bool u.2.2] := by rw [← hG1]; simp only [Heap.get_put, Heap.get_new, Heap.wf_put, Heap.wf_new, Heap.n_put, Heap.n_new, hw, e8, if_true]
    have g1p : G1.get p = D.blk := (f1.same p hp).trans hg
    have g1u : G1.get ub = .cells (encU us) := (f1.same ub hubn).trans hub
    obtain ⟨G', f', hG'⟩ := ih (j + 1) G1 (by omega) f1
    have f1w := f1.wf
    have n1 : nn m := by unfold nn; omega
    have n2 : nn j := by unfold nn; omega
    have e2 : j < 9223372036854775808 := by omega
    have e3 : (j + 1) % 18446744073709551616 = j + 1 := by omega
    have e4 : o + j * 3 ≤ (encU us).length := by omega
    have e5 : 3 ≤ ((encU us).drop (o + j * 3)).length := by rw [List.length_drop]; omega
    have hoj : (n + 1 + j) * 3 = o + j * 3 := by rw [ho]; omega
    have e6 : ((encU us).drop (o + j * 3)).take 3 = [.int 3 u.1, sv u.2.1, .bool u.2.2] := by rw [← hoj, a3]; rfl
    have e7 : n < nu := by omega
    have e9 : n < 9223372036854775808 := by omega
    have hnth : ∀ {id : Nat} {k : V → R}, nth id (encU us) (n * 3) k = k (.int 3 u0.1) := nth_get b0
    by_cases he : u.1 = u0.1
    · refine ⟨G1, f1, fun ph kx rr e hrr h0 h1 h15 h16 h17 x hY hT => ?_⟩
      obtain ⟨rr, rfl⟩ : ∃ q, rr = q + 1 := ⟨rr - 1, by omega⟩
      have hf : (us.drop (n + 1 + j)).find? (fun u => u.1 == u0.1) = some u := by rw [hdr, List.find?_cons]; simp [he]
      have he' : (u.1 = u0.1) = True := eq_true he
      rw [evL_succ]
      simp only [DR.blk, hu, sv] at g1p g1n g1u hG1 e6 hgp
      simp only [go_sem, reduceCtorEq, Nat.reduceAdd, Nat.reduceSub, Nat.reduceMul, Nat.reduceEqDiff, Nat.reduceLT, Nat.reduceDiv, Nat.reduceMod, Nat.reduceLeDiff, ↓reduceIte, c38l0, h0, h1, h15, h16, h17, hlt, n1, n2, e2, hw, hgu, e4, e5, e6, e8, hG1, g1n, g1p, g1u, f1w, e7, e9, hnth, he']
      exact hY u hf _ (by simp only [go_sem, reduceCtorEq, Nat.reduceAdd, Nat.reduceSub, Nat.reduceMul, Nat.reduceEqDiff, Nat.reduceLT, Nat.reduceDiv, Nat.reduceMod, Nat.reduceLeDiff, ↓reduceIte, sv])
    · refine ⟨G', f', fun ph kx rr e hrr h0 h1 h15 h16 h17 x hY hT => ?_⟩
      obtain ⟨rr, rfl⟩ : ∃ q, rr = q + 1 := ⟨rr - 1, by omega⟩
      have hf : (us.drop (n + 1 + j)).find? (fun u => u.1 == u0.1) = (us.drop (n + 1 + (j + 1))).find? (fun u => u.1 == u0.1) := by
        rw [hdr, List.find?_cons, show (u.1 == u0.1) = false by simpa using he]
      rw [hf] at hY hT
      rw [evL_succ]
      simp only [DR.blk, hu, sv] at g1p g1n g1u hG1 e6 hgp
      simp only [go_sem, reduceCtorEq, Nat.reduceAdd, Nat.reduceSub, Nat.reduceMul, Nat.reduceEqDiff, Nat.reduceLT, Nat.reduceDiv, Nat.reduceMod, Nat.reduceLeDiff, ↓reduceIte, c38l0, h0, h1, h15, h16, h17, hlt, n1, n2, e2, hw, hgu, e4, e5, e6, e8, hG1, g1n, g1p, g1u, f1w, e7, e9, hnth, he, e3]
      refine hG' ph kx rr _ (by omega) ?_ ?_ ?_ ?_ ?_ x hY hT <;> simp only [go_sem, reduceCtorEq, ↓reduceIte, h0, h1, h15, h16]
theorem written_call (T : TCode t) {p n : Nat} {D : DR} {es : List (Nat × Tx)} {us : List Un} {u0 : Un} (h : DiskIs H p D es (encU us)) (hnb : us.length < 1000000) (hn : us[n]? = some u0) (hfu : us.length < fuel) :
    ∃ H', Fresh H H' ∧ ∀ (d : Nat) (k : K), callP (evP cp t fuel (d + 1)) (.func 76 []) [.ptr p 0, .int 3 n] H k = k (sv (match (us.drop (n + 1)).find? (fun u => u.1 == u0.1) with | some u => u.2.1 | none => (find es u0.1).getD (0, 0))) H' := by
  have hnl : n < us.length := (List.getElem?_eq_some_iff.1 hn).1
  have hw := h.wf
  obtain ⟨ub, nu, hu, hus, hn0, hub, hubn, hup, hum⟩ : ∃ ub nu, D.u = .slice ub 0 nu 0 3 ∧ (encU us).length = nu * 3 ∧ 0 < nu ∧ H.get ub = .cells (encU us) ∧ ub < H.n ∧ ub ≠ p ∧ ub ≠ D.m := by
    rcases h.undo with ⟨_, he⟩ | he
    · have := congrArg List.length he
      rw [encU_length] at this
      simp only [List.length_nil] at this
      omega
    · exact he
  have hnu : nu = us.length := by rw [encU_length] at hus; omega
  obtain ⟨H', f', hL⟩ := written_loop (fuel := fuel) (es := es) h.hg h.hp hu hub hubn hnu (by omega) hn rfl rfl (nu - (n + 1)) 0 H (by omega) (Fresh.refl hw)
  refine ⟨H', f', fun d k => ?_⟩
  obtain ⟨b0, b1, b2, _, _⟩ := encU_at hn
  have hgp' : H'.get p = D.blk := (f'.same p h.hp).trans h.hg
  have hgm' : H'.get D.m = .map (encM (encS es)) := (f'.same _ h.hmn).trans h.hm
  have hgu' : H'.get ub = .cells (encU us) := (f'.same _ hubn).trans hub
  have hgp := h.hg
  have hw' := f'.wf
  have e1 : (n + 1) % 18446744073709551616 = n + 1 := by omega
  have e2 : n + 1 < 9223372036854775808 := by omega
  have e3 : n + 1 ≤ nu := by omega
  have e4 : nu ≤ nu := Nat.le_refl _
  have e5 : nu - (n + 1) < 9223372036854775808 := by omega
  have e7 : n < nu := by omega
  have e9 : n < 9223372036854775808 := by omega
  have hnth : ∀ {id : Nat} {k : V → R}, nth id (encU us) (n * 3) k = k (.int 3 u0.1) := nth_get b0
  have hlk := lkp_encS es u0.1
  simp only [DR.blk, hu] at hgp hgp'
  rw [call_entry T.k38 rfl rfl]
  simp only [go_sem, reduceCtorEq, Nat.reduceAdd, Nat.reduceSub, Nat.reduceMul, Nat.reduceEqDiff, Nat.reduceLT, Nat.reduceDiv, Nat.reduceMod, Nat.reduceLeDiff, ↓reduceIte, c38, hgp, hw, e1, e2, e3, e4, e5]
  refine hL _ _ fuel _ (by omega) ?_ ?_ ?_ ?_ ?_ _ (fun u hf e' h4 => ?_) (fun hf e' h0 h1 => ?_)
  · simp only [go_sem, reduceCtorEq, ↓reduceIte]
  · simp only [go_sem, reduceCtorEq, ↓reduceIte]
  · simp only [go_sem, reduceCtorEq, ↓reduceIte]
  · simp only [go_sem, reduceCtorEq, ↓reduceIte]
  · simp only [go_sem, reduceCtorEq, ↓reduceIte]
  · rw [Nat.add_zero] at hf
    simp only [go_sem, reduceCtorEq, Nat.reduceAdd, Nat.reduceSub, Nat.reduceMul, Nat.reduceEqDiff, Nat.reduceLT, Nat.reduceDiv, Nat.reduceMod, Nat.reduceLeDiff, ↓reduceIte, h4, hf]
  · rw [Nat.add_zero] at hf
    cases hfi : find es u0.1 with
    | some q =>
      rw [hfi] at hlk
      simp only [Option.map_some, sv] at hlk
      simp only [go_sem, reduceCtorEq, Nat.reduceAdd, Nat.reduceSub, Nat.reduceMul, Nat.reduceEqDiff, Nat.reduceLT, Nat.reduceDiv, Nat.reduceMod, Nat.reduceLeDiff, ↓reduceIte, h0, h1, hgp', hgm', hgu', hw', e7, e9, hnth, hlk, hf, Option.getD_some, sv]
    | none =>
      rw [hfi] at hlk
      simp only [Option.map_none] at hlk
      simp only [go_sem, reduceCtorEq, Nat.reduceAdd, Nat.reduceSub, Nat.reduceMul, Nat.reduceEqDiff, Nat.reduceLT, Nat.reduceDiv, Nat.reduceMod, Nat.reduceLeDiff, ↓reduceIte, h0, h1, hgp', hgm', hgu', hw', e7, e9, hnth, hlk, hf, Option.getD_none, sv]
end
end Go.Ev
end
section
namespace Go.Ev
def KpAt (H : Heap) (v : V) (bs : List Bool) : Prop := (NoneV v ∧ bs = []) ∨ ∃ b o c s row, v = .slice b o bs.length c s ∧ isRow (H.get b) row ∧ b < H.n ∧ ∀ i x, bs[i]? = some x → row[o + i]? = some (.bool x)
theorem KpAt.fresh {H H' : Heap} {v : V} {bs : List Bool} (h : KpAt H v bs) (f : Fresh H H') : KpAt H' v bs := by
  rcases h with h | ⟨b, o, c, s, row, h1, h2, h3, h4⟩
  · exact Or.inl h
  · exact Or.inr ⟨b, o, c, s, row, h1, by rw [f.same b h3]; exact h2, Nat.lt_of_lt_of_le h3 f.n, h4⟩
def writtenL (es : List (Nat × Tx)) (us : List Un) (n a : Nat) : Tx := match (us.drop (n + 1)).find? (fun u => u.1 == a) with
  | some u => u.2.1
  | none => (find es a).getD (0, 0)
def lastN (es : List (Nat × Tx)) (us : List Un) (bs : List Bool) : Nat → List (Nat × Tx)
  | 0 => []
  | i + 1 => if bs[i]? = some true then (match us[i]? with | some u => updS (lastN es us bs i) u.1 (writtenL es us i u.1) | none => lastN es us bs i) else lastN es us bs i
theorem DiskIs.freshen {H G : Heap} {p : Nat} {D : DR} {es : List (Nat × Tx)} {us : List V} (h : DiskIs H p D es us) (f : Fresh H G) : DiskIs G p D es us := by
  refine ⟨f.wf, Nat.lt_of_lt_of_le h.hp f.n, (f.same _ h.hp).trans h.hg, (f.same _ h.hmn).trans h.hm, Nat.lt_of_lt_of_le h.hmn f.n, h.hmp, ?_, h.hl, h.hr, h.hf, h.he⟩
  rcases h.undo with hu | ⟨ub, n, hu, g1, g2, g3, g4, g5⟩
  · exact Or.inl hu
  · exact Or.inr ⟨ub, n, hu, g1, g2, (f.same _ g4).trans g3, Nat.lt_of_lt_of_le g4 f.n, g5⟩
theorem DiskIs.mark {H : Heap} {p : Nat} {D : DR} {es : List (Nat × Tx)} {us : List V} (h : DiskIs H p D es us) : DiskIs H.mark p D es us := by
  obtain ⟨a1, a2, a3, a4, a5, a6, a7, a8, a9, a10, a11⟩ := h
  refine ⟨by rw [Heap.wf_mark]; exact a1, a2, a3, a4, a5, a6, a7, a8, a9, a10, a11⟩
section
variable {cp : RC → CodeE} {t : Nat → Option FnE} {fuel : Nat} {H : Heap}
set_option maxHeartbeats 1000000 in
theorem last_loop (T : TCode t) {p B M : Nat} {D : DR} {es : List (Nat × Tx)} {us : List Un} {bs : List Bool} {kv uv : V} {nu : Nat} (hD : DiskIs H p D es (encU us)) (hnu : nu = us.length) (hnb : us.length < 1000000) (huv : uv = D.u) (hkv : KpAt H kv bs) (hkb : bs.length < 9223372036854775808) (hB : H.n ≤ B) (hM : H.n ≤ M) (hBM : B ≠ M) (hfu : us.length < fuel) :
    ∀ (q i : Nat) (G : Heap), i + q = nu → Fresh H G → G.get B = .cells [.ptr p 0] → B < G.n → G.get M = .map (encM (encS (lastN es us bs i))) → M < G.n →
    ∃ G', Fresh H G' ∧ G'.get B = .cells [.ptr p 0] ∧ B < G'.n ∧ G'.get M = .map (encM (encS (lastN es us bs nu))) ∧ M < G'.n ∧ ∀ (d : Nat) (kx : Nat → KE) (rr : Nat) (e : Env), q < rr → pget ⟨.i0, .i0, .i2⟩ e = .ptr B 0 → pget ⟨.i0, .i0, .i1⟩ e = kv → pget ⟨.i0, .i0, .i4⟩ e = .map M → pget ⟨.i0, .i2, .i0⟩ e = uv → pget ⟨.i0, .i2, .i1⟩ e = .int 3 nu → pget ⟨.i0, .i2, .i2⟩ e = .int 3 i →
      ∀ x : R, (∀ e', pget ⟨.i0, .i0, .i2⟩ e' = .ptr B 0 → pget ⟨.i0, .i0, .i4⟩ e' = .map M → kx 1 e' G' = x) →
      evL c20l0 fuel (evP cp t fuel (d + 1)) kx rr e G = x := by
  intro q
  induction q with
  | zero =>
    intro i G hi f hgB hBn hgM hMn
    have hin : i = nu := by omega
    subst hin
    refine ⟨G, f, hgB, hBn, hgM, hMn, fun d kx rr e hrr h2 h1 h4 h20 h21 h22 x hT => ?_⟩
    obtain ⟨rr, rfl⟩ : ∃ q, rr = q + 1 := ⟨rr - 1, by omega⟩
    have e1 : ¬ i < i := by omega
    have n1 : nn i := by unfold nn; omega
    rw [evL_succ]
    simp only [go_sem, reduceCtorEq, Nat.reduceAdd, Nat.reduceSub, Nat.reduceMul, Nat.reduceEqDiff, Nat.reduceLT, Nat.reduceDiv, Nat.reduceMod, Nat.reduceLeDiff, ↓reduceIte, c20l0, h2, h1, h4, h20, h21, h22, e1, n1]
    exact hT _ (by simp only [go_sem, reduceCtorEq, ↓reduceIte, h2]) (by simp only [go_sem, reduceCtorEq, ↓reduceIte, h4])
  | succ q ih =>
    intro i G hi f hgB hBn hgM hMn
    have hw := f.wf
    have hlt : i < nu := by omega
    obtain ⟨u, hu1⟩ : ∃ u, us[i]? = some u := ⟨_, List.getElem?_eq_getElem (by omega)⟩
    obtain ⟨a0, a1, a2, r, a3⟩ := encU_at hu1
    have hel := encU_length us
    obtain ⟨ub, hu, hub, hubn⟩ : ∃ ub, uv = .slice ub 0 nu 0 3 ∧ H.get ub = .cells (encU us) ∧ ub < H.n := by
      rcases hD.undo with ⟨_, he⟩ | ⟨ub, n, hu, hus, hn0, hub, hubn, _⟩
      · have := congrArg List.length he
        rw [encU_length] at this
        simp only [List.length_nil] at this
        omega
      · exact ⟨ub, by rw [huv, hu]; congr 1; rw [encU_length] at hus; omega, hub, hubn⟩
    have hgu : G.get ub = .cells (encU us) := (f.same ub hubn).trans hub
    generalize hG1 : (G.new (.cells [.int 3 0, .str 0 0, .bool false])).put G.n (.cells [.int 3 u.1, sv u.2.1, .bool u.2.2]) = G1
    have f1 : Fresh H G1 := by rw [← hG1]; exact Fresh.put (f.trans (Fresh.new hw)) f.n (by rw [Heap.n_new]; omega)
    have e8 : G.n < G.n + 1 := by omega
    have g1n : G1.get G.n = .cells [.int 3 u.1, sv u.2.1, .bool u.2.2] := by rw [← hG1]; simp only [Heap.get_put, Heap.get_new, Heap.wf_put, Heap.wf_new, Heap.n_put, Heap.n_new, hw, e8, if_true]
    have g1o : ∀ b, b < G.n → G1.get b = G.get b := fun b hb => by
      rw [← hG1, Heap.get_put (by rw [Heap.wf_new]; exact hw) (by rw [Heap.n_new]; omega), if_neg (by omega), Heap.get_new hw, if_neg (by omega)]
    have g1l : G1.n = G.n + 1 := by rw [← hG1]; simp only [Heap.n_put, Heap.n_new]
    have g1B := (g1o B hBn).trans hgB
    have g1M := (g1o M hMn).trans hgM
    have f1w := f1.wf
    have hK1 := hkv.fresh f1
    have n1 : nn nu := by unfold nn; omega
    have n2 : nn i := by unfold nn; omega
    have nb : nn bs.length := by unfold nn; omega
    have e2 : i < 9223372036854775808 := by omega
    have e3 : (i + 1) % 18446744073709551616 = i + 1 := by omega
    have e4 : i * 3 ≤ (encU us).length := by omega
    have e5 : 3 ≤ ((encU us).drop (i * 3)).length := by rw [List.length_drop]; omega
    have e6 : ((encU us).drop (i * 3)).take 3 = [.int 3 u.1, sv u.2.1, .bool u.2.2] := by rw [a3]; rfl
    by_cases hk : bs[i]? = some true
    · -- it stays
      have hib : i < bs.length := (List.getElem?_eq_some_iff.1 hk).1
      obtain ⟨b, o, c, s, row, rfl, hr1, hr2, hr3⟩ : ∃ b o c s row, kv = .slice b o bs.length c s ∧ isRow (G1.get b) row ∧ b < G1.n ∧ ∀ i x, bs[i]? = some x → row[o + i]? = some (.bool x) := by
        rcases hK1 with ⟨_, h0⟩ | h
        · rw [h0] at hib; simp at hib
        · exact h
      have hrd : ∀ {id : Nat} {k : V → R}, rdB id (G1.get b) (o + i) k = k (.bool true) := rd_row hr1 (hr3 i true hk) rfl
      obtain ⟨G2m, f2m, hc2⟩ := written_call (cp := cp) (fuel := fuel) (u0 := u) T (hD.freshen f1).mark hnb hu1 hfu
      obtain ⟨f2, hlo⟩ := f2m.unmark
      generalize hG2 : G2m.unmark G1.wlo = G2 at f2
      have f2w := f2.wf
      have g2M := (f2.same M (by omega)).trans g1M
      have f02 := f1.trans f2
      have hMn2 : M < G2.n := by have := f2.n; omega
      have hset : upd (encS (lastN es us bs i)) u.1 (sv (writtenL es us i u.1)) = encS (updS (lastN es us bs i) u.1 (writtenL es us i u.1)) := upd_encS _ _ _
      have hlast : lastN es us bs (i + 1) = updS (lastN es us bs i) u.1 (writtenL es us i u.1) := by simp only [lastN, hk, hu1, if_true]
      generalize hG3 : G2.put M (.map (encM (encS (lastN es us bs (i + 1))))) = G3
      have f3 : Fresh H G3 := by rw [← hG3]; exact Fresh.put f02 hM hMn2
      have g3o : ∀ b, b ≠ M → G3.get b = G2.get b := fun b hb => by rw [← hG3, Heap.get_put f2w hMn2, if_neg hb]
      have g3l : G3.n = G2.n := by rw [← hG3]; exact Heap.n_put
      obtain ⟨G', f', q1, q2, q3, q4, hG'⟩ := ih (i + 1) G3 (by omega) f3 (by rw [g3o B hBM, f2.same B (by omega)]; exact g1B) (by have := f2.n; omega) (by rw [← hG3, Heap.get_put f2w hMn2, if_pos rfl]) (by omega)
      refine ⟨G', f', q1, q2, q3, q4, fun d kx rr e hrr h2 h1 h4 h20 h21 h22 x hT => ?_⟩
      obtain ⟨rr, rfl⟩ : ∃ q, rr = q + 1 := ⟨rr - 1, by omega⟩
      rw [hu] at h20
      have hc2' : ∀ {k : K}, callP (evP cp t fuel (d + 1)) (.func 76 []) [.ptr p 0, .int 3 i] G1.mark k = k (.str (writtenL es us i u.1).1 (writtenL es us i u.1).2) G2m := fun {k} => hc2 d k
      rw [evL_succ]
      simp only [sv] at g1n hG1 e6 hset
      simp only [go_sem, reduceCtorEq, Nat.reduceAdd, Nat.reduceSub, Nat.reduceMul, Nat.reduceEqDiff, Nat.reduceLT, Nat.reduceDiv, Nat.reduceMod, Nat.reduceLeDiff, ↓reduceIte, c20l0, h2, h1, h4, h20, h21, h22, hlt, hib, hkb, n1, n2, nb, e2, hw, hgu, e4, e5, e6, e8, hG1, g1n, g1B, f1w, hrd, hc2', hlo, hG2, g2M, f2w, hMn2, hset, ← hlast, hG3, e3]
      refine hG' d kx rr _ (by omega) ?_ ?_ ?_ ?_ ?_ ?_ x hT <;> simp only [go_sem, reduceCtorEq, Nat.reduceAdd, Nat.reduceSub, Nat.reduceMul, Nat.reduceEqDiff, Nat.reduceLT, Nat.reduceDiv, Nat.reduceMod, Nat.reduceLeDiff, ↓reduceIte, h2, h1, h4, h20, h21, h22, hu]
    · -- it does not
      have hlast : lastN es us bs (i + 1) = lastN es us bs i := by simp only [lastN, hk, if_false]
      obtain ⟨G', f', q1, q2, q3, q4, hG'⟩ := ih (i + 1) G1 (by omega) f1 g1B (by omega) (by rw [hlast]; exact g1M) (by omega)
      refine ⟨G', f', q1, q2, q3, q4, fun d kx rr e hrr h2 h1 h4 h20 h21 h22 x hT => ?_⟩
      obtain ⟨rr, rfl⟩ : ∃ q, rr = q + 1 := ⟨rr - 1, by omega⟩
      rw [hu] at h20
      rw [evL_succ]
      simp only [sv] at g1n hG1 e6
      by_cases hib : i < bs.length
      · obtain ⟨b, o, c, s, row, rfl, hr1, hr2, hr3⟩ : ∃ b o c s row, kv = .slice b o bs.length c s ∧ isRow (G1.get b) row ∧ b < G1.n ∧ ∀ i x, bs[i]? = some x → row[o + i]? = some (.bool x) := by
          rcases hK1 with ⟨_, h0⟩ | h
          · rw [h0] at hib; simp at hib
          · exact h
        have hbf : bs[i]? = some false := by
          rw [List.getElem?_eq_getElem hib] at hk ⊢
          cases hq : bs[i] with
          | true => rw [hq] at hk; exact absurd rfl hk
          | false => rfl
        have hrd : ∀ {id : Nat} {k : V → R}, rdB id (G1.get b) (o + i) k = k (.bool false) := rd_row hr1 (hr3 i false hbf) rfl
        simp only [go_sem, reduceCtorEq, Nat.reduceAdd, Nat.reduceSub, Nat.reduceMul, Nat.reduceEqDiff, Nat.reduceLT, Nat.reduceDiv, Nat.reduceMod, Nat.reduceLeDiff, ↓reduceIte, c20l0, h2, h1, h4, h20, h21, h22, hlt, hib, hkb, n1, n2, nb, e2, hw, hgu, e4, e5, e6, e8, hG1, g1n, g1B, f1w, hrd, e3]
        refine hG' d kx rr _ (by omega) ?_ ?_ ?_ ?_ ?_ ?_ x hT <;> simp only [go_sem, reduceCtorEq, Nat.reduceAdd, Nat.reduceSub, Nat.reduceMul, Nat.reduceEqDiff, Nat.reduceLT, Nat.reduceDiv, Nat.reduceMod, Nat.reduceLeDiff, ↓reduceIte, h2, h1, h4, h20, h21, h22, hu]
      · rcases hkv with ⟨rfl | ⟨b, o, c, s, rfl⟩, rfl⟩ | ⟨b, o, c, s, row, rfl, _⟩
        · have n0 : nn 0 := by unfold nn; omega
          have e0 : ¬ i < 0 := by omega
          simp only [go_sem, reduceCtorEq, Nat.reduceAdd, Nat.reduceSub, Nat.reduceMul, Nat.reduceEqDiff, Nat.reduceLT, Nat.reduceDiv, Nat.reduceMod, Nat.reduceLeDiff, ↓reduceIte, c20l0, h2, h1, h4, h20, h21, h22, hlt, e0, n1, n2, n0, e2, hw, hgu, e4, e5, e6, e8, hG1, g1n, g1B, f1w, e3]
          refine hG' d kx rr _ (by omega) ?_ ?_ ?_ ?_ ?_ ?_ x hT <;> simp only [go_sem, reduceCtorEq, Nat.reduceAdd, Nat.reduceSub, Nat.reduceMul, Nat.reduceEqDiff, Nat.reduceLT, Nat.reduceDiv, Nat.reduceMod, Nat.reduceLeDiff, ↓reduceIte, h2, h1, h4, h20, h21, h22, hu]
        · have n0 : nn 0 := by unfold nn; omega
          have e0 : ¬ i < 0 := by omega
          have e00 : (0 : Nat) < 9223372036854775808 := by omega
          simp only [go_sem, reduceCtorEq, Nat.reduceAdd, Nat.reduceSub, Nat.reduceMul, Nat.reduceEqDiff, Nat.reduceLT, Nat.reduceDiv, Nat.reduceMod, Nat.reduceLeDiff, ↓reduceIte, c20l0, h2, h1, h4, h20, h21, h22, hlt, e0, e00, n1, n2, n0, e2, hw, hgu, e4, e5, e6, e8, hG1, g1n, g1B, f1w, e3]
          refine hG' d kx rr _ (by omega) ?_ ?_ ?_ ?_ ?_ ?_ x hT <;> simp only [go_sem, reduceCtorEq, Nat.reduceAdd, Nat.reduceSub, Nat.reduceMul, Nat.reduceEqDiff, Nat.reduceLT, Nat.reduceDiv, Nat.reduceMod, Nat.reduceLeDiff, ↓reduceIte, h2, h1, h4, h20, h21, h22, hu]
        · simp only [go_sem, reduceCtorEq, Nat.reduceAdd, Nat.reduceSub, Nat.reduceMul, Nat.reduceEqDiff, Nat.reduceLT, Nat.reduceDiv, Nat.reduceMod, Nat.reduceLeDiff, ↓reduceIte, c20l0, h2, h1, h4, h20, h21, h22, hlt, hib, hkb, n1, n2, nb, e2, hw, hgu, e4, e5, e6, e8, hG1, g1n, g1B, f1w, e3]
          refine hG' d kx rr _ (by omega) ?_ ?_ ?_ ?_ ?_ ?_ x hT <;> simp only [go_sem, reduceCtorEq, Nat.reduceAdd, Nat.reduceSub, Nat.reduceMul, Nat.reduceEqDiff, Nat.reduceLT, Nat.reduceDiv, Nat.reduceMod, Nat.reduceLeDiff, ↓reduceIte, h2, h1, h4, h20, h21, h22, hu]
end
end Go.Ev
end
section
namespace Go.Ev
def rest1 (es : List (Nat × Tx)) (u : Un) : List (Nat × Tx) := if u.2.2 = true then updS es u.1 u.2.1 else del es u.1
def restI (us : List Un) : Nat → List (Nat × Tx) → List (Nat × Tx)
  | 0, es => es
  | i + 1, es => restI us i (match us[i]? with | some u => rest1 es u | none => es)
def two (m l b : Nat) : Prop := b = m ∨ b = l
structure Rd (B0 G : Heap) (m l : Nat) (es : List (Nat × Tx)) (lp : Blk) : Prop where
  step : Step B0 (two m l) G (two m l)
  map : G.get m = .map (encM (encS es))
  lp : G.get l = lp
section
variable {cp : RC → CodeE} {t : Nat → Option FnE} {fuel : Nat}
set_option maxHeartbeats 1000000 in
theorem yld_round {B0 G : Heap} {p B l i : Nat} {D : DR} {es : List (Nat × Tx)} {u : Un} {e0 : Env} (hca : cp r20.1 = c20a) (hcb : cp r20.2 = c20b)
    (hR : Rd B0 G D.m l es (.loop 0 0 e0 [⟨.i0, .i5, .i6⟩, ⟨.i0, .i5, .i7⟩] r20.1 r20.2)) (hp : B0.get p = D.blk) (hpn : p < B0.n) (hB : B0.get B = .cells [.ptr p 0]) (hBn : B < B0.n) (hmn : D.m < B0.n) (hln : l < B0.n) (hpm : p ≠ D.m) (hpl : p ≠ l) (hBm : B ≠ D.m) (hBl : B ≠ l) (hml : D.m ≠ l) (he0 : pget ⟨.i0, .i0, .i2⟩ e0 = .ptr B 0) :
    ∃ G', Rd B0 G' D.m l (rest1 es u) (.loop 0 0 e0 [⟨.i0, .i5, .i6⟩, ⟨.i0, .i5, .i7⟩] r20.1 r20.2) ∧ ∀ (d : Nat) (k : K), callP (evP cp t fuel (d + 1)) (.yld l) [.int 3 i, .agg [.int 3 u.1, sv u.2.1, .bool u.2.2]] G k = k (.bool true) G' := by
  obtain ⟨hs, hm, hl⟩ := hR
  have hw := hs.wf
  have hpG : G.get p = D.blk := ((hs.same p hpn (fun h => h.elim hpm hpl)).1).trans hp
  have hBG : G.get B = .cells [.ptr p 0] := ((hs.same B hBn (fun h => h.elim hBm hBl)).1).trans hB
  have hn := hs.n
  -- the round's own cell
  generalize hG1 : (G.new (.cells [.int 3 0, .str 0 0, .bool false])).put G.n (.cells [.int 3 u.1, sv u.2.1, .bool u.2.2]) = G1
  have e8 : G.n < G.n + 1 := by omega
  have g1w : G1.wf := by rw [← hG1, Heap.wf_put, Heap.wf_new]; exact hw
  have g1n : G1.n = G.n + 1 := by rw [← hG1, Heap.n_put, Heap.n_new]
  have g1c : G1.get G.n = .cells [.int 3 u.1, sv u.2.1, .bool u.2.2] := by rw [← hG1]; simp only [Heap.get_put, Heap.get_new, Heap.wf_put, Heap.wf_new, Heap.n_put, Heap.n_new, hw, e8, if_true]
  have g1o : ∀ b, b < G.n → G1.get b = G.get b := fun b hb => by
    rw [← hG1, Heap.get_put (by rw [Heap.wf_new]; exact hw) (by rw [Heap.n_new]; omega), if_neg (by omega), Heap.get_new hw, if_neg (by omega)]
  have g1lo : ∀ lo, lo ≤ G.wlo → lo ≤ G.n → lo ≤ G1.wlo := fun lo h1 h2 => by rw [← hG1]; exact Heap.lo_put (Heap.lo_new h1) h2
  generalize hG2 : G1.put l (.loop 1 0 e0 [⟨.i0, .i5, .i6⟩, ⟨.i0, .i5, .i7⟩] r20.1 r20.2) = G2
  have hl1 : l < G1.n := by omega
  have g2w : G2.wf := by rw [← hG2, Heap.wf_put]; exact g1w
  have g2n : G2.n = G1.n := by rw [← hG2, Heap.n_put]
  have g2o : ∀ b, b ≠ l → G2.get b = G1.get b := fun b hb => by rw [← hG2, Heap.get_put g1w hl1, if_neg hb]
  have g2l : G2.get l = .loop 1 0 e0 [⟨.i0, .i5, .i6⟩, ⟨.i0, .i5, .i7⟩] r20.1 r20.2 := by rw [← hG2, Heap.get_put g1w hl1, if_pos rfl]
  have g2c : G2.get G.n = .cells [.int 3 u.1, sv u.2.1, .bool u.2.2] := (g2o _ (by omega)).trans g1c
  have g2p : G2.get p = D.blk := (g2o p hpl).trans ((g1o p (by omega)).trans hpG)
  have g2B : G2.get B = .cells [.ptr p 0] := (g2o B hBl).trans ((g1o B (by omega)).trans hBG)
  have g2m : G2.get D.m = .map (encM (encS es)) := (g2o _ hml).trans ((g1o _ (by omega)).trans hm)
  have hm2 : D.m < G2.n := by omega
  generalize hG3 : G2.put D.m (.map (encM (encS (rest1 es u)))) = G3
  have g3w : G3.wf := by rw [← hG3, Heap.wf_put]; exact g2w
  have g3n : G3.n = G2.n := by rw [← hG3, Heap.n_put]
  have g3o : ∀ b, b ≠ D.m → G3.get b = G2.get b := fun b hb => by rw [← hG3, Heap.get_put g2w hm2, if_neg hb]
  have g3m : G3.get D.m = .map (encM (encS (rest1 es u))) := by rw [← hG3, Heap.get_put g2w hm2, if_pos rfl]
  have hl3 : l < G3.n := by omega
  refine ⟨G3.put l (.loop 0 0 e0 [⟨.i0, .i5, .i6⟩, ⟨.i0, .i5, .i7⟩] r20.1 r20.2), ⟨⟨by rw [Heap.wf_put]; exact g3w, by rw [Heap.n_put]; omega, fun b hb ho => ⟨?_, ho⟩, fun lo h1 h2 h3 => ⟨?_, h3⟩⟩, ?_, ?_⟩, fun d k => ?_⟩
  · have h1 : b ≠ D.m := fun e => ho (Or.inl e)
    have h2 : b ≠ l := fun e => ho (Or.inr e)
    rw [Heap.get_put g3w hl3, if_neg h2, g3o b h1, g2o b h2, g1o b (by omega)]
    exact (hs.same b hb ho).1
  · have h4 := (hs.lo lo h1 h2 h3).1
    refine Heap.lo_put ?_ (h3 l (Or.inr rfl))
    rw [← hG3]
    refine Heap.lo_put ?_ (h3 _ (Or.inl rfl))
    rw [← hG2]
    exact Heap.lo_put (g1lo lo h4 (by omega)) (h3 l (Or.inr rfl))
  · rw [Heap.get_put g3w hl3, if_neg hml]; exact g3m
  · rw [Heap.get_put g3w hl3, if_pos rfl]
  · rw [callP_yld]
    refine evY_round (e1 := pset ⟨.i0, .i5, .i7⟩ (.agg [.int 3 u.1, sv u.2.1, .bool u.2.2]) (pset ⟨.i0, .i5, .i6⟩ (.int 3 i) e0)) (e2 := pset ⟨.i0, .i1, .i0⟩ (.ptr G.n 0) (pset ⟨.i0, .i5, .i7⟩ (.agg [.int 3 u.1, sv u.2.1, .bool u.2.2]) (pset ⟨.i0, .i5, .i6⟩ (.int 3 i) e0))) (H2 := G1) (H3 := G3) hl (fun f => ?_) (fun kn kx => ?_) ((g1o l (by omega)).trans hl) g1w hl1 (fun kn kx => ?_) ((g3o l hml.symm).trans g2l) g3w hl3
    · simp only [go_sem, reduceCtorEq, ↓reduceIte]
    · rw [hca]
      simp only [sv] at hG1 ⊢
      simp only [go_sem, reduceCtorEq, Nat.reduceAdd, Nat.reduceSub, Nat.reduceMul, Nat.reduceEqDiff, Nat.reduceLT, Nat.reduceDiv, Nat.reduceMod, Nat.reduceLeDiff, ↓reduceIte, c20a, hw, e8, hG1]
    · rw [hcb, hG2]
      simp only [sv, DR.blk] at g2c g2p
      cases hu : u.2.2 with
      | true =>
        have hr1 : rest1 es u = updS es u.1 u.2.1 := by simp only [rest1, hu, if_true]
        have hset : upd (encS es) u.1 (.str u.2.1.1 u.2.1.2) = encS (updS es u.1 u.2.1) := upd_encS _ _ _
        rw [hu] at g2c
        rw [hr1] at hG3
        refine ⟨?_, ?_⟩
        rotate_left
        · simp only [go_sem, reduceCtorEq, Nat.reduceAdd, Nat.reduceSub, Nat.reduceMul, Nat.reduceEqDiff, Nat.reduceLT, Nat.reduceDiv, Nat.reduceMod, Nat.reduceLeDiff, ↓reduceIte, c20b, he0, g2c, g2B, g2p, g2m, g2w, hm2, hset, hG3]
          rfl
      | false =>
        have hr1 : rest1 es u = del es u.1 := by simp only [rest1, hu, Bool.false_eq_true, if_false]
        rw [hu] at g2c
        rw [hr1] at hG3
        refine ⟨?_, ?_⟩
        rotate_left
        · simp only [go_sem, reduceCtorEq, Nat.reduceAdd, Nat.reduceSub, Nat.reduceMul, Nat.reduceEqDiff, Nat.reduceLT, Nat.reduceDiv, Nat.reduceMod, Nat.reduceLeDiff, ↓reduceIte, c20b, op_mdel, he0, g2c, g2B, g2p, g2m, g2w, hm2, del_enc, hG3]
          rfl
end
end Go.Ev
end
section
namespace Go.Ev
section
variable {cp : RC → CodeE} {t : Nat → Option FnE} {fuel : Nat}
set_option maxHeartbeats 1000000 in
theorem back_loop {B0 : Heap} {p B X l nu : Nat} {D : DR} {us : List Un} {uv : V} {e0 : Env} (hca : cp r20.1 = c20a) (hcb : cp r20.2 = c20b)
    (hp : B0.get p = D.blk) (hpn : p < B0.n) (hB : B0.get B = .cells [.ptr p 0]) (hBn : B < B0.n) (hmn : D.m < B0.n) (hln : l < B0.n) (hpm : p ≠ D.m) (hpl : p ≠ l) (hBm : B ≠ D.m) (hBl : B ≠ l) (hml : D.m ≠ l) (he0 : pget ⟨.i0, .i0, .i2⟩ e0 = .ptr B 0)
    (hX : B0.get X = .cells [uv]) (hXn : X < B0.n) (hXm : X ≠ D.m) (hXl : X ≠ l) (hnu : nu = us.length) (hnb : us.length < 1000000) (huv : us = [] ∨ ∃ ub, uv = .slice ub 0 nu 0 3 ∧ B0.get ub = .cells (encU us) ∧ ub < B0.n ∧ ub ≠ D.m ∧ ub ≠ l) :
    ∀ (i : Nat) (G : Heap) (es : List (Nat × Tx)), i ≤ nu → Rd B0 G D.m l es (.loop 0 0 e0 [⟨.i0, .i5, .i6⟩, ⟨.i0, .i5, .i7⟩] r20.1 r20.2) →
    ∃ G', Rd B0 G' D.m l (restI us i es) (.loop 0 0 e0 [⟨.i0, .i5, .i6⟩, ⟨.i0, .i5, .i7⟩] r20.1 r20.2) ∧ ∀ (d : Nat) (kx : Nat → KE) (rr : Nat) (e : Env) (j : Nat), i < rr → j = (i + 18446744073709551615) % 18446744073709551616 → pget ⟨.i0, .i0, .i0⟩ e = .yld l → pget ⟨.i0, .i0, .i1⟩ e = .ptr X 0 → pget ⟨.i0, .i0, .i3⟩ e = .int 3 j →
      ∀ x : R, (∀ e', kx 1 e' G' = x) →
      evL c54l0 fuel (evP cp t fuel (d + 1)) kx rr e G = x := by
  intro i
  induction i with
  | zero =>
    intro G es hi hR
    refine ⟨G, hR, fun d kx rr e j hrr hj h0 h1 h3 x hT => ?_⟩
    obtain ⟨rr, rfl⟩ : ∃ q, rr = q + 1 := ⟨rr - 1, by omega⟩
    have hj' : j = 18446744073709551615 := by omega
    subst hj'
    have e1 : (evCF (.ge 9223372036854775808 18446744073709551616) 18446744073709551615 0 = true) = False := by
      rw [cf_ge]
      exact propext ⟨fun h => by omega, False.elim⟩
    rw [evL_succ]
    simp only [go_sem, reduceCtorEq, Nat.reduceAdd, Nat.reduceSub, Nat.reduceMul, Nat.reduceEqDiff, Nat.reduceLT, Nat.reduceDiv, Nat.reduceMod, Nat.reduceLeDiff, ↓reduceIte, c54l0, h0, h1, h3, e1]
    exact hT _
  | succ i ih =>
    intro G es hi hR
    have hilt : i < us.length := by omega
    obtain ⟨u, hu1⟩ : ∃ u, us[i]? = some u := ⟨_, List.getElem?_eq_getElem hilt⟩
    obtain ⟨a0, a1, a2, r, a3⟩ := encU_at hu1
    have hel := encU_length us
    obtain ⟨ub, rfl, hub, hubn, hubm, hubl⟩ : ∃ ub, uv = .slice ub 0 nu 0 3 ∧ B0.get ub = .cells (encU us) ∧ ub < B0.n ∧ ub ≠ D.m ∧ ub ≠ l := by
      rcases huv with h | h
      · rw [h] at hilt; simp at hilt
      · exact h
    obtain ⟨G1, hR1, hy⟩ := yld_round (cp := cp) (t := t) (fuel := fuel) (i := i) (u := u) hca hcb hR hp hpn hB hBn hmn hln hpm hpl hBm hBl hml he0
    obtain ⟨G', hR', hG'⟩ := ih G1 (rest1 es u) (by omega) hR1
    have hXG : G.get X = .cells [.slice ub 0 nu 0 3] := ((hR.step.same X hXn (fun h => h.elim hXm hXl)).1).trans hX
    have hUG : G.get ub = .cells (encU us) := ((hR.step.same ub hubn (fun h => h.elim hubm hubl)).1).trans hub
    refine ⟨G', by simpa only [restI, hu1] using hR', fun d kx rr e j hrr hj h0 h1 h3 x hT => ?_⟩
    obtain ⟨rr, rfl⟩ : ∃ q, rr = q + 1 := ⟨rr - 1, by omega⟩
    have hj' : j = i := by omega
    subst hj'
    have hw := hR.step.wf
    have n1 : nn j := by unfold nn; omega
    have n0 : nn 0 := by unfold nn; omega
    have e0 : (0 : Nat) ≤ j := Nat.zero_le _
    have e2 : j < 9223372036854775808 := by omega
    have e3 : j < nu := by omega
    have e4 : j * 3 ≤ (encU us).length := by omega
    have e5 : 3 ≤ ((encU us).drop (j * 3)).length := by rw [List.length_drop]; omega
    have e6 : ((encU us).drop (j * 3)).take 3 = [.int 3 u.1, sv u.2.1, .bool u.2.2] := by rw [a3]; rfl
    rw [evL_succ]
    simp only [go_sem, reduceCtorEq, Nat.reduceAdd, Nat.reduceSub, Nat.reduceMul, Nat.reduceEqDiff, Nat.reduceLT, Nat.reduceDiv, Nat.reduceMod, Nat.reduceLeDiff, ↓reduceIte, c54l0, h0, h1, h3, n1, n0, e0, e2, e3, hXG, hUG, e4, e5, e6, hy]
    refine hG' d kx rr _ ((j + 18446744073709551615) % 18446744073709551616) (by omega) rfl ?_ ?_ ?_ x hT
    · simp only [go_sem, reduceCtorEq, ↓reduceIte, h0]
    · simp only [go_sem, reduceCtorEq, ↓reduceIte, h1]
    · simp only [go_sem, reduceCtorEq, ↓reduceIte]
theorem back_call (T : TCode t) {B0 : Heap} {p B X l nu : Nat} {D : DR} {es : List (Nat × Tx)} {us : List Un} {uv : V} {e0 : Env} (hca : cp r20.1 = c20a) (hcb : cp r20.2 = c20b)
    (hw : B0.wf) (hm : B0.get D.m = .map (encM (encS es))) (hl : B0.get l = .loop 0 0 e0 [⟨.i0, .i5, .i6⟩, ⟨.i0, .i5, .i7⟩] r20.1 r20.2)
    (hp : B0.get p = D.blk) (hpn : p < B0.n) (hB : B0.get B = .cells [.ptr p 0]) (hBn : B < B0.n) (hmn : D.m < B0.n) (hln : l < B0.n) (hpm : p ≠ D.m) (hpl : p ≠ l) (hBm : B ≠ D.m) (hBl : B ≠ l) (hml : D.m ≠ l) (he0 : pget ⟨.i0, .i0, .i2⟩ e0 = .ptr B 0)
    (hX : B0.get X = .cells [uv]) (hXn : X < B0.n) (hXm : X ≠ D.m) (hXl : X ≠ l) (hnu : nu = us.length) (hnb : us.length < 1000000) (hfu : us.length < fuel) (huv : (uv = .nils ∧ us = []) ∨ ∃ ub, uv = .slice ub 0 nu 0 3 ∧ B0.get ub = .cells (encU us) ∧ ub < B0.n ∧ ub ≠ D.m ∧ ub ≠ l) :
    ∃ G', Rd B0 G' D.m l (restI us nu es) (.loop 0 0 e0 [⟨.i0, .i5, .i6⟩, ⟨.i0, .i5, .i7⟩] r20.1 r20.2) ∧ ∀ (d : Nat) (k : K), callP (evP cp t fuel (d + 2)) (.func 108 [.ptr X 0]) [.yld l] B0 k = k (.tup []) G' := by
  obtain ⟨G', hR', hL⟩ := back_loop (cp := cp) (t := t) (fuel := fuel) (B0 := B0) hca hcb hp hpn hB hBn hmn hln hpm hpl hBm hBl hml he0 hX hXn hXm hXl hnu hnb (huv.imp (·.2) id) nu B0 es (Nat.le_refl _) ⟨Step.refl hw, hm, hl⟩
  refine ⟨G', hR', fun d k => ?_⟩
  have e3 : nu < 9223372036854775808 := by omega
  rw [call_entry T.k54 rfl rfl]
  rcases huv with ⟨rfl, rfl⟩ | ⟨ub, rfl, hub, _⟩
  · have hnu0 : nu = 0 := hnu
    subst hnu0
    simp only [go_sem, reduceCtorEq, Nat.reduceAdd, Nat.reduceSub, Nat.reduceMul, Nat.reduceEqDiff, Nat.reduceLT, Nat.reduceDiv, Nat.reduceMod, Nat.reduceLeDiff, ↓reduceIte, c54, hX]
    refine hL d _ fuel _ 18446744073709551615 (by omega) (by omega) ?_ ?_ ?_ _ (fun e' => ?_)
    · simp only [go_sem, reduceCtorEq, ↓reduceIte]
    · simp only [go_sem, reduceCtorEq, ↓reduceIte]
    · simp only [go_sem, reduceCtorEq, ↓reduceIte]
    · simp only [go_sem, reduceCtorEq, ↓reduceIte]
  · simp only [go_sem, reduceCtorEq, Nat.reduceAdd, Nat.reduceSub, Nat.reduceMul, Nat.reduceEqDiff, Nat.reduceLT, Nat.reduceDiv, Nat.reduceMod, Nat.reduceLeDiff, ↓reduceIte, c54, hX, e3]
    refine hL d _ fuel _ ((nu + 18446744073709551615) % 18446744073709551616) (by omega) rfl ?_ ?_ ?_ _ (fun e' => ?_)
    · simp only [go_sem, reduceCtorEq, ↓reduceIte]
    · simp only [go_sem, reduceCtorEq, ↓reduceIte]
    · simp only [go_sem, reduceCtorEq, ↓reduceIte]
    · simp only [go_sem, reduceCtorEq, ↓reduceIte]
end
end Go.Ev
end
section
namespace Go.Ev
theorem rest1_length (es : List (Nat × Tx)) (u : Un) : (rest1 es u).length ≤ es.length + 1 := by
  unfold rest1
  split
  · exact updS_le _ _ _
  · have : ∀ (l : List (Nat × Tx)) a, (del l a).length ≤ l.length := by
      intro l a
      induction l with
      | nil => exact Nat.le_refl _
      | cons p l ih =>
        unfold del
        split
        · simp
        · simp only [List.length_cons]; omega
    have := this es u.1
    omega
theorem restI_length (us : List Un) : ∀ (i : Nat) (es : List (Nat × Tx)), (restI us i es).length ≤ es.length + i
  | 0, es => Nat.le_refl _
  | i + 1, es => by
    simp only [restI]
    cases h : us[i]? with
    | none => have := restI_length us i es; simp only; omega
    | some u =>
      have h1 := restI_length us i (rest1 es u)
      have h2 := rest1_length es u
      simp only
      omega
theorem lastN_length (es : List (Nat × Tx)) (us : List Un) (bs : List Bool) : ∀ i, (lastN es us bs i).length ≤ i
  | 0 => Nat.le_refl _
  | i + 1 => by
    have ih := lastN_length es us bs i
    simp only [lastN]
    split
    · split
      · rename_i u _
        have := updS_le (lastN es us bs i) u.1 (writtenL es us i u.1)
        omega
      · omega
    · omega
def AD.wakeEs (A : AD) (bs : List Bool) : List (Nat × Tx) := laid (restI A.us A.us.length A.es) (lastN A.es A.us bs A.us.length)
def AD.wake (A : AD) (bs : List Bool) : AD := { A with es := A.wakeEs bs, us := [], off := false }
section
variable {cp : RC → CodeE} {t : Nat → Option FnE} {fuel : Nat} {H : Heap}
theorem evC_rangeF_cps {ph : Phi} {e : Env} {kn : KE} {kx : Nat → KE} {g : Arg} {ps : List Slot} {aa bo : RC} {f : Nat} {caps : List V} {x : R} (hw : H.wf) (hg : pgetA g e = .func f caps) (hf : f % 2 = 0)
    (h : ∃ (G : Heap) (e' : Env) (ps' : List Slot) (as' bo' : RC) (v : V), (∀ k : K, callP ph (.func f caps) [.yld (H.n + 1)] ((H.new .mark).new (.loop 0 0 e ps aa bo)) k = k v G) ∧ G.get (H.n + 1) = .loop 0 0 e' ps' as' bo' ∧ G.wf ∧ H.n + 1 < G.n ∧ kn e (G.put (H.n + 1) (.loop 3 0 e' ps' as' bo')) = x) :
    evC (.rangeF g ps aa bo) fuel ph e H kn kx = x := by
  obtain ⟨G, e', ps', as', bo', v, h1, h2, h3, h4, h5⟩ := h
  exact (evC_rangeF hw hg hf h1 h2 h3 h4).trans h5
set_option maxHeartbeats 2000000 in
theorem wake_call (T : TCode t) (hcm : t 40 = some (.nat nCopyM)) (hca : cp r20.1 = c20a) (hcb : cp r20.2 = c20b)
    {p : Nat} {A : AD} {O : Nat → Prop} {kv : V} {bs : List Bool} (hD : Disk H p A O) (ho : A.off = true) (hus : A.us.length < 1000000) (hes : A.es.length < 1000000) (hkv : KpAt H kv bs) (hkb : bs.length < 9223372036854775808) (hfu : 1000000 < fuel)
    (d : Nat) (k : K) (x : R) (hx : ∀ H' O', Step H O H' O' → Disk H' p (A.wake bs) O' → k (.tup []) H' = x) : callP (evP cp t fuel (d + 3)) (.func 40 []) [.ptr p 0, kv] H k = x := by
  obtain ⟨D, h, h1, h2, h3, h4, rfl⟩ := hD
  have hw := h.wf
  -- the box, the map
  have f1 : Fresh H (H.new (.cells [.ptr p 0])) := Fresh.new hw
  generalize hG1 : H.new (.cells [.ptr p 0]) = G1 at f1
  have g1n : G1.n = H.n + 1 := by rw [← hG1, Heap.n_new]
  have g1w := f1.wf
  have g1B : G1.get H.n = .cells [.ptr p 0] := by rw [← hG1, Heap.get_new hw, if_pos rfl]
  have hst : ∀ {d : Nat} {k : K}, callP (evP cp t fuel (d + 1)) (.func 72 []) [.ptr p 0] G1 k = k (.int 3 6) G1 := fun {d k} => by
    have hD1 := h.freshen f1
    have TD : TDisk t := ⟨T.k22, T.k36, T.k66, T.k37, T.k50⟩
    rw [state_call TD hD1.wf hD1.hp hD1.hg, h4, ho]
    rfl
  have f2 : Fresh H (G1.new (.map [])) := f1.trans (Fresh.new g1w)
  generalize hG2 : G1.new (.map []) = G2 at f2
  have g2n : G2.n = H.n + 1 + 1 := by rw [← hG2, Heap.n_new, g1n]
  have g2w := f2.wf
  have g2B : G2.get H.n = .cells [.ptr p 0] := by rw [← hG2, Heap.get_new g1w, if_neg (by omega)]; exact g1B
  have g2M : G2.get (H.n + 1) = .map (encM (encS (lastN A.es A.us bs 0))) := by rw [← hG2, Heap.get_new g1w, if_pos g1n.symm]; rfl
  have g2p : G2.get p = D.blk := (f2.same p h.hp).trans h.hg
  obtain ⟨G3, f3, g3B, g3Bn, g3M, g3Mn, hL⟩ := last_loop (cp := cp) (fuel := fuel) (B := H.n) (M := H.n + 1) (nu := A.us.length) (uv := D.u) T h rfl hus rfl hkv hkb (Nat.le_refl _) (by omega) (by omega) (by omega) A.us.length 0 G2 (by omega) f2 g2B (by omega) g2M (by omega)
  have g3w := f3.wf
  have g3p : G3.get p = D.blk := (f3.same p h.hp).trans h.hg
  have f4 : Fresh H (G3.new (.cells [D.u])) := f3.trans (Fresh.new g3w)
  generalize hG4 : G3.new (.cells [D.u]) = G4 at f4
  have g4n : G4.n = G3.n + 1 := by rw [← hG4, Heap.n_new]
  have g4w := f4.wf
  have g4X : G4.get G3.n = .cells [D.u] := by rw [← hG4, Heap.get_new g3w, if_pos rfl]
  have g4o : ∀ b, b < G3.n → G4.get b = G3.get b := fun b hb => by rw [← hG4, Heap.get_new g3w, if_neg (by omega)]
  have hun : (D.u = .nils ∧ A.us = []) ∨ ∃ ub, D.u = .slice ub 0 A.us.length 0 3 ∧ H.get ub = .cells (encU A.us) ∧ ub < H.n ∧ ub ≠ p ∧ ub ≠ D.m := by
    rcases h.undo with ⟨hu, he⟩ | ⟨ub, n, hu, hul, hn0, hub, hubn, hup, hum⟩
    · left
      refine ⟨hu, ?_⟩
      have := congrArg List.length he
      rw [encU_length] at this
      simp only [List.length_nil] at this
      exact List.eq_nil_of_length_eq_zero (by omega)
    · rw [encU_length] at hul
      obtain rfl : n = A.us.length := by omega
      exact Or.inr ⟨ub, hu, hub, hubn, hup, hum⟩
  have hlen : (∀ {id : Nat} {f : Nat → R}, True) := fun {_ _} => trivial
  -- the rounds, whatever the frame
  have key : ∀ (e0 : Env) (kn : KE) (x : R), pget ⟨.i0, .i0, .i2⟩ e0 = .ptr H.n 0 → (∀ G6 : Heap, G6.wf → G4.n + 1 < G6.n → (∀ b, b < G4.n → b ≠ D.m → G6.get b = G4.get b) → G6.get D.m = .map (encM (encS (restI A.us A.us.length A.es))) → (∀ lo, lo ≤ H.wlo → lo ≤ H.n → lo ≤ D.m → lo ≤ G6.wlo) → kn e0 G6 = x) → ∀ d : Nat,
      ∀ (kx : Nat → KE) (g : Arg), pgetA g e0 = .func 108 [.ptr G3.n 0] → evC (.rangeF g [⟨.i0, .i5, .i6⟩, ⟨.i0, .i5, .i7⟩] r20.1 r20.2) fuel (evP cp t fuel (d + 2)) e0 G4 kn kx = x := fun e0 kn x he0 hT d kx g hg0 => by
    refine evC_rangeF_cps g4w hg0 rfl ?_
    have hmw : (G4.new .mark).wf := by rw [Heap.wf_new]; exact g4w
    have hmn : (G4.new .mark).n = G4.n + 1 := Heap.n_new
    have hB0 : ∀ b, b < G4.n → ((G4.new .mark).new (.loop 0 0 e0 [⟨.i0, .i5, .i6⟩, ⟨.i0, .i5, .i7⟩] r20.1 r20.2)).get b = G4.get b := fun b hb => by
      rw [Heap.get_new hmw, if_neg (by omega), Heap.get_new g4w, if_neg (by omega)]
    have hB0n : ((G4.new .mark).new (.loop 0 0 e0 [⟨.i0, .i5, .i6⟩, ⟨.i0, .i5, .i7⟩] r20.1 r20.2)).n = G4.n + 1 + 1 := by rw [Heap.n_new, hmn]
    have hold : ∀ b, b < H.n → ((G4.new .mark).new (.loop 0 0 e0 [⟨.i0, .i5, .i6⟩, ⟨.i0, .i5, .i7⟩] r20.1 r20.2)).get b = H.get b := fun b hb => (hB0 b (by omega)).trans (f4.same b hb)
    have hpl := h.hp
    have hml := h.hmn
    obtain ⟨G', hR, hcall⟩ := back_call (cp := cp) (fuel := fuel) (B0 := (G4.new .mark).new (.loop 0 0 e0 [⟨.i0, .i5, .i6⟩, ⟨.i0, .i5, .i7⟩] r20.1 r20.2)) (p := p) (B := H.n) (X := G3.n) (l := G4.n + 1) (nu := A.us.length) (D := D) (es := A.es) (us := A.us) (uv := D.u) (e0 := e0) T hca hcb
      (by rw [Heap.wf_new]; exact hmw) ((hold _ hml).trans h.hm) (by rw [Heap.get_new hmw, if_pos hmn.symm]) ((hold p hpl).trans h.hg) (by omega) ((hB0 _ (by omega)).trans ((g4o _ g3Bn).trans g3B)) (by omega) (by omega) (by omega) h.hmp.symm (by omega) (by omega) (by omega) (by omega) he0
      ((hB0 _ (by omega)).trans g4X) (by omega) (by omega) (by omega) rfl hus (by omega) (hun.imp id fun ⟨ub, q1, q2, q3, q4, q5⟩ => ⟨ub, q1, (hold ub q3).trans q2, by omega, q5, by omega⟩)
    have hn' := hR.step.n
    have hG'w := hR.step.wf
    have hlt' : G4.n + 1 < G'.n := by omega
    refine ⟨G', e0, _, _, _, _, fun k => hcall d k, hR.lp, hG'w, hlt', hT _ (by rw [Heap.wf_put]; exact hG'w) (by rw [Heap.n_put]; exact hlt') (fun b hb hbm => ?_) ?_ (fun lo q1 q2 q3 => ?_)⟩
    · rw [Heap.get_put hG'w hlt', if_neg (by omega), (hR.step.same b (by omega) (fun h => h.elim hbm (fun h => by omega))).1]
      exact hB0 b hb
    · rw [Heap.get_put hG'w hlt', if_neg (by omega)]
      exact hR.map
    · refine Heap.lo_put ((hR.step.lo lo (Heap.lo_new (Heap.lo_new (f4.lo lo q1 q2))) (by have := f4.n; omega) (fun b hb => ?_)).1) (by have := f4.n; omega)
      rcases hb with rfl | rfl
      · exact q3
      · have := f4.n; omega
  have hvc : ∀ {id : Nat} {f : List V → R}, vCells id D.u f = f [D.u] := fun {id f} => by
    rcases hun with ⟨hu, _⟩ | ⟨ub, hu, _⟩ <;> rw [hu] <;> rfl
  have hone : ∀ {id : Nat} {k : R}, isOne id D.u k = k := fun {id k} => by
    rcases hun with ⟨hu, _⟩ | ⟨ub, hu, _⟩ <;> rw [hu] <;> rfl
  have hsn : ∀ {id : Nat} {f : Nat → R}, vSliceN id D.u (fun _ _ len _ _ => f len) (f 0) = f A.us.length := fun {id f} => by
    rcases hun with ⟨hu, he⟩ | ⟨ub, hu, _⟩
    · rw [hu, he]; rfl
    · rw [hu]; rfl
  have e9 : A.us.length < 9223372036854775808 := by omega
  have hgg : G2.get p = D.blk := g2p
  simp only [DR.blk] at g2p g3p
  rw [call_entry T.k20 rfl rfl]
  simp only [go_sem, reduceCtorEq, Nat.reduceAdd, Nat.reduceSub, Nat.reduceMul, Nat.reduceEqDiff, Nat.reduceLT, Nat.reduceDiv, Nat.reduceMod, Nat.reduceLeDiff, ↓reduceIte, c20, hw, hG1, g1B, g1w, hst, hG2, g2B, g2w, g2p, ↓hsn, e9]
  refine hL (d + 1) _ fuel _ (by omega) ?_ ?_ ?_ ?_ ?_ ?_ _ (fun e1 h2' h4' => ?_)
  · simp only [go_sem, reduceCtorEq, ↓reduceIte]
  · simp only [go_sem, reduceCtorEq, ↓reduceIte]
  · simp only [go_sem, reduceCtorEq, Nat.reduceAdd, Nat.reduceSub, Nat.reduceMul, Nat.reduceEqDiff, Nat.reduceLT, Nat.reduceDiv, Nat.reduceMod, Nat.reduceLeDiff, ↓reduceIte, g1n]
  · simp only [go_sem, reduceCtorEq, ↓reduceIte]
  · simp only [go_sem, reduceCtorEq, ↓reduceIte]
  · simp only [go_sem, reduceCtorEq, ↓reduceIte]
  have hbk : ∀ {d : Nat} {k : K}, callP (evP cp t fuel (d + 1)) (.func 78 []) [D.u] G3 k = k (.func 108 [.ptr G3.n 0]) G4 := fun {d k} => by
    rw [call_entry T.k39 rfl rfl]
    simp only [go_sem, reduceCtorEq, Nat.reduceAdd, Nat.reduceSub, Nat.reduceMul, Nat.reduceEqDiff, Nat.reduceLT, Nat.reduceDiv, Nat.reduceMod, Nat.reduceLeDiff, ↓reduceIte, c39, g3w, hvc, hone, hG4]
  simp only [go_sem, reduceCtorEq, Nat.reduceAdd, Nat.reduceSub, Nat.reduceMul, Nat.reduceEqDiff, Nat.reduceLT, Nat.reduceDiv, Nat.reduceMod, Nat.reduceLeDiff, ↓reduceIte, h2', h4', g3B, g3p, g3w, hbk]
  refine key _ _ _ ?_ (fun G6 g6w g6n g6o g6m g6lo => ?_) d _ _ ?_
  · simp only [go_sem, reduceCtorEq, ↓reduceIte, h2']
  rotate_left
  · simp only [go_sem, reduceCtorEq, ↓reduceIte]
  have hBm : H.n ≠ D.m := by have := h.hmn; omega
  have hpn := h.hp
  have hmn := h.hmn
  have g6B : G6.get H.n = .cells [.ptr p 0] := (g6o _ (by omega) hBm).trans ((g4o _ g3Bn).trans g3B)
  have g6M : G6.get (H.n + 1) = .map (encM (encS (lastN A.es A.us bs A.us.length))) := (g6o _ (by omega) (by omega)).trans ((g4o _ g3Mn).trans g3M)
  have g6p : G6.get p = D.blk := (g6o p (by omega) h.hmp.symm).trans ((f4.same p hpn).trans h.hg)
  have hm6 : D.m < G6.n := by omega
  generalize hG7 : G6.put D.m (.map (encM (encS (A.wakeEs bs)))) = G7
  have hcp : ∀ {d : Nat} {k : K}, callP (evP cp t fuel (d + 1)) (.func 80 []) [.map D.m, .map (H.n + 1)] G6 k = k (.tup []) G7 := fun {d k} => by
    rw [call_nat hcm rfl rfl]
    refine (nCopyM_map g6w (by omega) g6m hm6 g6M).trans ?_
    rw [← hG7]
    rfl
  have g7w : G7.wf := by rw [← hG7, Heap.wf_put]; exact g6w
  have g7n : G7.n = G6.n := by rw [← hG7, Heap.n_put]
  have g7o : ∀ b, b ≠ D.m → G7.get b = G6.get b := fun b hb => by rw [← hG7, Heap.get_put g6w hm6, if_neg hb]
  have g7m : G7.get D.m = .map (encM (encS (A.wakeEs bs))) := by rw [← hG7, Heap.get_put g6w hm6, if_pos rfl]
  have g7B := (g7o _ hBm).trans g6B
  have g7p := (g7o _ h.hmp.symm).trans g6p
  have hp7 : p < G7.n := by omega
  have hB7 : H.n < G7.n := by omega
  have hxx := hx (G7.put p { D with u := .nils, off := false }.blk) ({ D with u := .nils, off := false }.owns p) ⟨by rw [Heap.wf_put]; exact g7w, by rw [Heap.n_put]; omega, fun b hb hbo => ⟨?_, ?_⟩, fun lo q1 q2 q3 => ⟨?_, ?_⟩⟩ ⟨{ D with u := .nils, off := false }, ⟨by rw [Heap.wf_put]; exact g7w, by rw [Heap.n_put]; omega, by rw [Heap.get_put g7w hp7, if_pos rfl], by rw [Heap.get_put g7w hp7, if_neg h.hmp]; exact g7m, by rw [Heap.n_put]; show D.m < _; omega, h.hmp, Or.inl ⟨rfl, rfl⟩, h.hl, h.hr, h.hf, ?_⟩, h1, h2, h3, rfl, rfl⟩
  rotate_left
  · have e1 : b ≠ p := fun e => hbo (Or.inl e)
    have e2 : b ≠ D.m := fun e => hbo (Or.inr (Or.inl e))
    rw [Heap.get_put g7w hp7, if_neg e1, g7o b e2, g6o b (by omega) e2]
    exact f4.same b hb
  · rintro (e | e | ⟨o, m, c, s, e⟩)
    · exact hbo (Or.inl e)
    · exact hbo (Or.inr (Or.inl e))
    · cases e
  · refine Heap.lo_put ?_ (q3 p (Or.inl rfl))
    rw [← hG7]
    exact Heap.lo_put (g6lo lo q1 q2 (q3 _ (Or.inr (Or.inl rfl)))) (q3 _ (Or.inr (Or.inl rfl)))
  · rintro b (e | e | ⟨o, m, c, s, e⟩)
    · exact q3 b (Or.inl e)
    · exact q3 b (Or.inr (Or.inl e))
    · cases e
  · have r1 := restI_length A.us A.us.length A.es
    have r2 := lastN_length A.es A.us bs A.us.length
    have r3 := laid_length (lastN A.es A.us bs A.us.length) (restI A.us A.us.length A.es)
    show (A.wakeEs bs).length < _
    unfold AD.wakeEs
    omega
  have g6p' := g6p
  simp only [DR.blk] at g6p'
  simp only [go_sem, reduceCtorEq, Nat.reduceAdd, Nat.reduceSub, Nat.reduceMul, Nat.reduceEqDiff, Nat.reduceLT, Nat.reduceDiv, Nat.reduceMod, Nat.reduceLeDiff, ↓reduceIte, h2', h4', g6B, g6p', g6w, hcp]
  simp only [DR.blk] at g7p hxx
  simp only [go_sem, reduceCtorEq, Nat.reduceAdd, Nat.reduceSub, Nat.reduceMul, Nat.reduceEqDiff, Nat.reduceLT, Nat.reduceDiv, Nat.reduceMod, Nat.reduceLeDiff, ↓reduceIte, evC_freg, evFreg_1, h2', h4', g7B, g7w]
  refine (evFreg_2 (b := H.n) (o := 0) (v := .ptr p 0) (by simp only [go_sem, reduceCtorEq, ↓reduceIte, h2']) hB7 (fun k => by simp only [go_sem, reduceCtorEq, Nat.reduceAdd, Nat.reduceSub, Nat.reduceMul, Nat.reduceEqDiff, Nat.reduceLT, Nat.reduceDiv, Nat.reduceMod, Nat.reduceLeDiff, ↓reduceIte, h2', g7B]) (fun k => apartN_nil)).trans ?_
  simp only [go_sem, reduceCtorEq, Nat.reduceAdd, Nat.reduceSub, Nat.reduceMul, Nat.reduceEqDiff, Nat.reduceLT, Nat.reduceDiv, Nat.reduceMod, Nat.reduceLeDiff, ↓reduceIte, evFreg_0]
  refine Eq.trans (evFreg_3 (b := p) (o := 1) (v := .tup []) (H' := G7.put p (.cells [.map D.m, .nils, .int 3 D.len, .int 3 D.room, .int 3 D.fuse, .bool D.off])) ?_ (fun k => ?_) (fun k => ?_)) ?_
  · simp only [go_sem, reduceCtorEq, ↓reduceIte]
  · simp only [go_sem, reduceCtorEq, Nat.reduceAdd, Nat.reduceSub, Nat.reduceMul, Nat.reduceEqDiff, Nat.reduceLT, Nat.reduceDiv, Nat.reduceMod, Nat.reduceLeDiff, ↓reduceIte, g7p, g7w, hp7]
  · rw [apartN_cons, if_neg (by decide), if_neg (by omega), apartN_nil]
  simp only [go_sem, reduceCtorEq, Nat.reduceAdd, Nat.reduceSub, Nat.reduceMul, Nat.reduceEqDiff, Nat.reduceLT, Nat.reduceDiv, Nat.reduceMod, Nat.reduceLeDiff, ↓reduceIte, evFreg_0, evFreg_nil, g7w, hp7]
  exact hxx
end
end Go.Ev
end
section
namespace Go.Ev
def AD.kept (A : AD) : List Tx := (List.range (A.len - 145)).map fun j => A.read (145 + j)
def SsAt (H : Heap) (v : V) (ss : List Tx) (O : Nat → Prop) : Prop := (v = .nils ∧ ss = []) ∨ ∃ b, v = .slice b 0 ss.length 0 1 ∧ H.get b = .cells (ss.map sv) ∧ b < H.n ∧ ¬ O b
theorem SsAt.keep {H H' : Heap} {v : V} {ss : List Tx} {O O' : Nat → Prop} (h : SsAt H v ss O) (s : Step H O H' O') : SsAt H' v ss O' := by
  rcases h with h | ⟨b, h1, h2, h3, h4⟩
  · exact Or.inl h
  · exact Or.inr ⟨b, h1, ((s.same b h3 h4).1).trans h2, Nat.lt_of_lt_of_le h3 s.n, (s.same b h3 h4).2⟩
theorem SsAt.fresh {H H' : Heap} {v : V} {ss : List Tx} {O : Nat → Prop} (h : SsAt H v ss O) (s : Fresh H H') : SsAt H' v ss O := h.keep s.step
theorem GrowsS.at_ {H H' : Heap} {v : V} {ss : List Tx} (h : GrowsS H H' v ss) {O : Nat → Prop} (hO : ∀ b, O b → b < H.n) : SsAt H' v ss O := by
  rcases h with h | ⟨bo, q1, q2, q3, q4, q5⟩
  · exact Or.inl h
  · exact Or.inr ⟨bo, q1, q3, q5, fun h => by have := hO _ h; omega⟩
section
variable {cp : RC → CodeE} {t : Nat → Option FnE} {fuel : Nat} {H : Heap}
set_option maxHeartbeats 1000000 in
theorem kept_loop (T : TCode t) (hc : HasClone t) {p n : Nat} {A : AD} {O : Nat → Prop} (hD : Disk H p A O) (ho : A.off = false) (hl : A.len = 145 + n) (hl2 : A.len ≤ 1024) :
    ∀ (m i : Nat) (G : Heap) (vo : V), i + m = n → Fresh H G → GrowsS H G vo ((List.range i).map fun j => A.read (145 + j)) →
    ∃ G' vo', Fresh H G' ∧ GrowsS H G' vo' ((List.range n).map fun j => A.read (145 + j)) ∧ ∀ (d : Nat) (kx : Nat → KE) (rr : Nat) (e : Env), m < rr → pget ⟨.i0, .i0, .i0⟩ e = .ptr p 0 → pget ⟨.i0, .i0, .i3⟩ e = vo → pget ⟨.i0, .i0, .i4⟩ e = .int 3 (145 + i) →
      ∀ x : R, (∀ e', pget ⟨.i0, .i0, .i3⟩ e' = vo' → kx 1 e' G' = x) →
      evL c16l0 fuel (evP cp t fuel (d + 3)) kx rr e G = x := by
  intro m
  induction m with
  | zero =>
    intro i G vo hi f hg
    have hi' : i = n := by omega
    subst hi'
    refine ⟨G, vo, f, hg, fun d kx rr e hrr h0 h3 h4 x hT => ?_⟩
    obtain ⟨rr, rfl⟩ : ∃ q, rr = q + 1 := ⟨rr - 1, by omega⟩
    have hL : ∀ {d : Nat} {k : K}, callP (evP cp t fuel (d + 1)) (.func 26 []) [.ptr p 0] G k = k (.int 3 (145 + i)) G := fun {d k} => by rw [len_all (T.disk4 hc) (hD.fresh f), hl]
    have e1 : ¬ 145 + i < 145 + i := by omega
    have e2 : nn (145 + i) := by unfold nn; omega
    rw [evL_succ]
    simp only [go_sem, reduceCtorEq, Nat.reduceAdd, Nat.reduceSub, Nat.reduceMul, Nat.reduceEqDiff, Nat.reduceLT, Nat.reduceDiv, Nat.reduceMod, Nat.reduceLeDiff, ↓reduceIte, c16l0, h0, h3, h4, hL, e1, e2]
    exact hT _ (by simp only [go_sem, reduceCtorEq, ↓reduceIte, h3])
  | succ m ih =>
    intro i G vo hi f hg
    have hlt : 145 + i < 145 + n := by omega
    have e1 : nn (145 + i) := by unfold nn; omega
    have e2 : nn (145 + n) := by unfold nn; omega
    have e9 : (145 + i + 1) % 18446744073709551616 = 145 + (i + 1) := by omega
    have hL : ∀ {d : Nat} {k : K}, callP (evP cp t fuel (d + 1)) (.func 26 []) [.ptr p 0] G k = k (.int 3 (145 + n)) G := fun {d k} => by rw [len_all (T.disk4 hc) (hD.fresh f), hl]
    obtain ⟨G2, hr2, f2⟩ := read_all (cp := cp) (fuel := fuel) (T.disk4 hc) (hD.fresh f) ho (a := 145 + i) (by omega)
    have fG2 := f.trans f2
    have gw := fG2.wf
    have hrs : (List.range (i + 1)).map (fun j => A.read (145 + j)) = (List.range i).map (fun j => A.read (145 + j)) ++ [A.read (145 + i)] := by rw [List.range_succ, List.map_append]; rfl
    have hrl : ((List.range i).map fun j => A.read (145 + j)).length = i := by simp
    have e21 : (1 : Nat) ≤ 1073741824 := by omega
    generalize hgn : (List.range i).map (fun j => A.read (145 + j)) = ss at hg hrs hrl
    generalize A.read (145 + i) = q at hr2 hrs
    obtain ⟨ql, qn⟩ := q
    simp only [sv] at hr2
    rcases hg with ⟨rfl, hs0⟩ | ⟨bo, rfl, hs0, hbo2, hbo3, hbo4⟩
    · subst hs0
      have f3 : Fresh H ((G2.new (.cells [.str ql qn])).new (.cells [.str ql qn])) := (fG2.trans (Fresh.new gw)).trans (Fresh.new (by rw [Heap.wf_new]; exact gw))
      have gn : ((G2.new (.cells [.str ql qn])).new (.cells [.str ql qn])).n = G2.n + 1 + 1 := by simp only [Heap.n_new]
      obtain ⟨G', vo', f', hg', hG'⟩ := ih (i + 1) _ (.slice (G2.n + 1) 0 1 0 1) (by omega) f3 (by
          rw [hrs]
          refine Or.inr ⟨G2.n + 1, rfl, by simp, ?_, by have := fG2.n; omega, by rw [gn]; omega⟩
          rw [Heap.get_new (by rw [Heap.wf_new]; exact gw), if_pos (by rw [Heap.n_new])]
          rfl)
      refine ⟨G', vo', f', hg', fun d kx rr e hrr h0 h3 h4 x hT => ?_⟩
      obtain ⟨rr, rfl⟩ : ∃ q, rr = q + 1 := ⟨rr - 1, by omega⟩
      rw [evL_succ]
      simp only [go_sem, reduceCtorEq, Nat.reduceAdd, Nat.reduceSub, Nat.reduceMul, Nat.reduceEqDiff, Nat.reduceLT, Nat.reduceDiv, Nat.reduceMod, Nat.reduceLeDiff, ↓reduceIte, c16l0, h0, h3, h4, hL, hlt, e1, e2, e9, hr2, gw, e21]
      refine hG' d kx rr _ (by omega) ?_ ?_ ?_ x hT <;> simp only [go_sem, reduceCtorEq, ↓reduceIte, h0, h3, h4]
    · have hboG : bo < G2.n := Nat.lt_of_lt_of_le hbo4 f2.n
      have hbo2' : G2.get bo = .cells (ss.map sv) := (f2.same bo hbo4).trans hbo2
      have e4 : ¬ bo = G2.n := by omega
      have e5 : bo < G2.n + 1 := by omega
      have e6 : ss.length + 1 ≤ 1073741824 := by omega
      have w1 : ((G2.new (.cells [.str ql qn])).put bo .dead).wf := by simp only [Heap.wf_put, Heap.wf_new, gw]
      have n1 : ((G2.new (.cells [.str ql qn])).put bo .dead).n = G2.n + 1 := by simp only [Heap.n_new, Heap.n_put]
      have f3 : Fresh H (((G2.new (.cells [.str ql qn])).put bo .dead).new (.cells (ss.map sv ++ [.str ql qn]))) := (Fresh.put (fG2.trans (Fresh.new gw)) hbo3 (by rw [Heap.n_new]; omega)).trans (Fresh.new w1)
      have gn : (((G2.new (.cells [.str ql qn])).put bo .dead).new (.cells (ss.map sv ++ [.str ql qn]))).n = G2.n + 1 + 1 := by rw [Heap.n_new, n1]
      obtain ⟨G', vo', f', hg', hG'⟩ := ih (i + 1) _ (.slice (G2.n + 1) 0 (ss.length + 1) 0 1) (by omega) f3 (by
          rw [hrs]
          refine Or.inr ⟨G2.n + 1, by simp, by simp, ?_, by have := fG2.n; omega, by rw [gn]; omega⟩
          rw [Heap.get_new w1, if_pos n1.symm, List.map_append]
          rfl)
      refine ⟨G', vo', f', hg', fun d kx rr e hrr h0 h3 h4 x hT => ?_⟩
      obtain ⟨rr, rfl⟩ : ∃ q, rr = q + 1 := ⟨rr - 1, by omega⟩
      rw [evL_succ]
      simp only [go_sem, reduceCtorEq, Nat.reduceAdd, Nat.reduceSub, Nat.reduceMul, Nat.reduceEqDiff, Nat.reduceLT, Nat.reduceDiv, Nat.reduceMod, Nat.reduceLeDiff, ↓reduceIte, c16l0, h0, h3, h4, hL, hlt, e1, e2, e9, hr2, gw, e4, e5, e6, hbo2']
      refine hG' d kx rr _ (by omega) ?_ ?_ ?_ x hT <;> simp only [go_sem, reduceCtorEq, ↓reduceIte, h0, h3, h4]
theorem kept_call (T : TCode t) (hc : HasClone t) {p : Nat} {A : AD} {O : Nat → Prop} (hD : Disk H p A O) (ho : A.off = false) (hl : 145 ≤ A.len) (hl2 : A.len ≤ 1024) (hfu : 2000 < fuel) :
    ∃ H' v, (∀ (d : Nat) (k : K), callP (evP cp t fuel (d + 4)) (.func 32 []) [.ptr p 0] H k = k v H') ∧ Fresh H H' ∧ GrowsS H H' v A.kept := by
  obtain ⟨H', v, f, hg, hL⟩ := kept_loop (cp := cp) (fuel := fuel) (n := A.len - 145) T hc hD ho (by omega) hl2 (A.len - 145) 0 H .nils (by omega) (Fresh.refl hD.wf) (Or.inl ⟨rfl, rfl⟩)
  refine ⟨H', v, fun d k => ?_, f, hg⟩
  rw [call_entry T.k16 rfl rfl]
  simp only [go_sem, reduceCtorEq, Nat.reduceAdd, Nat.reduceSub, Nat.reduceMul, Nat.reduceEqDiff, Nat.reduceLT, Nat.reduceDiv, Nat.reduceMod, Nat.reduceLeDiff, ↓reduceIte, c16]
  refine hL d _ fuel _ (by omega) ?_ ?_ ?_ _ (fun e' h3 => ?_)
  · simp only [go_sem, reduceCtorEq, ↓reduceIte]
  · simp only [go_sem, reduceCtorEq, ↓reduceIte]
  · simp only [go_sem, reduceCtorEq, ↓reduceIte]
  · simp only [go_sem, reduceCtorEq, ↓reduceIte, h3]
theorem sv_at {ss : List Tx} {i : Nat} (h : i < ss.length) : (ss.map sv)[i]? = some (sv ss[i]) := by
  rw [List.getElem?_map, List.getElem?_eq_getElem h]; rfl
theorem alike_loop {a b n : Nat} {ss tt : List Tx} (hn : ss.length = n) (hn2 : tt.length = n) (hnb : n < 1000000) (ha : H.get a = .cells (ss.map sv)) (hb : H.get b = .cells (tt.map sv)) (hw : H.wf) :
    ∀ (m i : Nat), i + m = n → ss.take i = tt.take i → ∀ (ph : Phi) (kx : Nat → KE) (rr : Nat) (e : Env), m < rr → pget ⟨.i0, .i0, .i0⟩ e = .slice a 0 n 0 1 → pget ⟨.i0, .i0, .i1⟩ e = .slice b 0 n 0 1 → pget ⟨.i0, .i0, .i5⟩ e = .int 3 i →
      ∀ x : R, (ss = tt → ∀ e', kx 1 e' H = x) → (ss ≠ tt → ∀ e', pget ⟨.i0, .i0, .i4⟩ e' = .bool false → kx 0 e' H = x) →
      evL c17l0 fuel ph kx rr e H = x := by
  intro m
  induction m with
  | zero =>
    intro i hi ht ph kx rr e hrr h0 h1 h5 x hY hN
    obtain ⟨rr, rfl⟩ : ∃ q, rr = q + 1 := ⟨rr - 1, by omega⟩
    have hi' : i = n := by omega
    subst hi'
    have e1 : ¬ i < i := by omega
    have e2 : nn i := by unfold nn; omega
    have e3 : i < 9223372036854775808 := by omega
    rw [evL_succ]
    simp only [go_sem, reduceCtorEq, Nat.reduceAdd, Nat.reduceSub, Nat.reduceMul, Nat.reduceEqDiff, Nat.reduceLT, Nat.reduceDiv, Nat.reduceMod, Nat.reduceLeDiff, ↓reduceIte, c17l0, h0, h1, h5, e1, e2, e3]
    refine hY ?_ _
    rwa [List.take_of_length_le (by omega), List.take_of_length_le (by omega)] at ht
  | succ m ih =>
    intro i hi ht ph kx rr e hrr h0 h1 h5 x hY hN
    obtain ⟨rr, rfl⟩ : ∃ q, rr = q + 1 := ⟨rr - 1, by omega⟩
    have hlt : i < n := by omega
    have e1 : nn i := by unfold nn; omega
    have e2 : nn n := by unfold nn; omega
    have e3 : n < 9223372036854775808 := by omega
    have e4 : i < 9223372036854775808 := by omega
    have e9 : (i + 1) % 18446744073709551616 = i + 1 := by omega
    have his : i < ss.length := by omega
    have hit : i < tt.length := by omega
    have hs1 : ∀ {id : Nat} {k : V → R}, nth id (ss.map sv) i k = k (.str ss[i].1 ss[i].2) := nth_get (sv_at his)
    have hs2 : ∀ {id : Nat} {k : V → R}, nth id (tt.map sv) i k = k (.str tt[i].1 tt[i].2) := nth_get (sv_at hit)
    rw [evL_succ]
    by_cases hq : ss[i].1 = tt[i].1 ∧ ss[i].2 = tt[i].2
    · have hq' : (ss[i].1 = tt[i].1 ∧ ss[i].2 = tt[i].2) = True := eq_true hq
      simp only [go_sem, reduceCtorEq, Nat.reduceAdd, Nat.reduceSub, Nat.reduceMul, Nat.reduceEqDiff, Nat.reduceLT, Nat.reduceDiv, Nat.reduceMod, Nat.reduceLeDiff, ↓reduceIte, c17l0, h0, h1, h5, hlt, e1, e2, e3, e4, ha, hb, hs1, hs2, hw, e9, hq.1, hq.2]
      refine ih (i + 1) (by omega) ?_ ph kx rr _ (by omega) ?_ ?_ ?_ x hY hN
      · rw [List.take_succ_eq_append_getElem his, List.take_succ_eq_append_getElem hit, ht]
        congr 2
        exact Prod.ext hq.1 hq.2
      · simp only [go_sem, reduceCtorEq, ↓reduceIte, h0]
      · simp only [go_sem, reduceCtorEq, ↓reduceIte, h1]
      · simp only [go_sem, reduceCtorEq, ↓reduceIte]
    · have hq' : (ss[i].1 = tt[i].1 ∧ ss[i].2 = tt[i].2) = False := eq_false hq
      simp only [go_sem, reduceCtorEq, Nat.reduceAdd, Nat.reduceSub, Nat.reduceMul, Nat.reduceEqDiff, Nat.reduceLT, Nat.reduceDiv, Nat.reduceMod, Nat.reduceLeDiff, ↓reduceIte, c17l0, h0, h1, h5, hlt, e1, e2, e3, e4, ha, hb, hs1, hs2, hw, hq']
      refine hN (fun e => hq (by subst e; exact ⟨rfl, rfl⟩)) _ (by simp only [go_sem, reduceCtorEq, ↓reduceIte])
theorem alike_call (T : TCode t) {v w : V} {ss tt : List Tx} {O Q : Nat → Prop} (hw : H.wf) (hv : SsAt H v ss O) (hv2 : SsAt H w tt Q) (h1 : ss.length < 1000000) (h2 : tt.length < 1000000) (hfu : 1000000 < fuel) (d : Nat) (k : K) :
    callP (evP cp t fuel (d + 1)) (.func 34 []) [v, w] H k = k (.bool (decide (ss = tt))) H := by
  rw [call_entry T.k17 rfl rfl]
  obtain ⟨f, rfl⟩ : ∃ f, fuel = f + 1 := ⟨fuel - 1, by omega⟩
  have n0 : nn 0 := by unfold nn; omega
  have e0 : (0 : Nat) < 9223372036854775808 := by omega
  have e1 : ss.length < 9223372036854775808 := by omega
  have e2 : tt.length < 9223372036854775808 := by omega
  rcases hv with ⟨rfl, rfl⟩ | ⟨a, rfl, ha, _⟩
  · rcases hv2 with ⟨rfl, rfl⟩ | ⟨b, rfl, hb, _⟩
    · simp only [go_sem, reduceCtorEq, Nat.reduceAdd, Nat.reduceSub, Nat.reduceMul, Nat.reduceEqDiff, Nat.reduceLT, Nat.reduceDiv, Nat.reduceMod, Nat.reduceLeDiff, ↓reduceIte, c17, evL_succ, c17l0, n0, e0, Nat.lt_irrefl, decide_true]
    · cases tt with
      | nil => simp only [go_sem, reduceCtorEq, Nat.reduceAdd, Nat.reduceSub, Nat.reduceMul, Nat.reduceEqDiff, Nat.reduceLT, Nat.reduceDiv, Nat.reduceMod, Nat.reduceLeDiff, ↓reduceIte, c17, evL_succ, c17l0, n0, e0, Nat.lt_irrefl, decide_true]
      | cons y tt =>
        have hne : ¬ 0 = tt.length + 1 := by omega
        have hdd : decide (([] : List Tx) = y :: tt) = false := rfl
        simp only [List.length_cons] at e2
        simp only [go_sem, reduceCtorEq, Nat.reduceAdd, Nat.reduceSub, Nat.reduceMul, Nat.reduceEqDiff, Nat.reduceLT, Nat.reduceDiv, Nat.reduceMod, Nat.reduceLeDiff, ↓reduceIte, c17, n0, e0, e2, hne, hdd, decide_false]
  · rcases hv2 with ⟨rfl, rfl⟩ | ⟨b, rfl, hb, _⟩
    · cases ss with
      | nil => simp only [go_sem, reduceCtorEq, Nat.reduceAdd, Nat.reduceSub, Nat.reduceMul, Nat.reduceEqDiff, Nat.reduceLT, Nat.reduceDiv, Nat.reduceMod, Nat.reduceLeDiff, ↓reduceIte, c17, evL_succ, c17l0, n0, e0, Nat.lt_irrefl, decide_true]
      | cons y ss =>
        have hne : ¬ ss.length + 1 = 0 := by omega
        have hdd : decide (y :: ss = ([] : List Tx)) = false := rfl
        simp only [List.length_cons] at e1
        simp only [go_sem, reduceCtorEq, Nat.reduceAdd, Nat.reduceSub, Nat.reduceMul, Nat.reduceEqDiff, Nat.reduceLT, Nat.reduceDiv, Nat.reduceMod, Nat.reduceLeDiff, ↓reduceIte, c17, n0, e0, e1, hne, hdd, decide_false]
    · by_cases hl : ss.length = tt.length
      · simp only [go_sem, reduceCtorEq, Nat.reduceAdd, Nat.reduceSub, Nat.reduceMul, Nat.reduceEqDiff, Nat.reduceLT, Nat.reduceDiv, Nat.reduceMod, Nat.reduceLeDiff, ↓reduceIte, c17, e1, e2, hl]
        refine alike_loop (n := tt.length) hl rfl h2 ha hb hw tt.length 0 (by omega) rfl _ _ (f + 1) _ (by omega) ?_ ?_ ?_ _ (fun he e' => ?_) (fun he e' h4 => ?_)
        · simp only [go_sem, reduceCtorEq, ↓reduceIte]
        · simp only [go_sem, reduceCtorEq, ↓reduceIte]
        · simp only [go_sem, reduceCtorEq, ↓reduceIte]
        · simp only [go_sem, reduceCtorEq, Nat.reduceAdd, Nat.reduceSub, Nat.reduceMul, Nat.reduceEqDiff, Nat.reduceLT, Nat.reduceDiv, Nat.reduceMod, Nat.reduceLeDiff, ↓reduceIte, decide_eq_true he]
        · simp only [go_sem, reduceCtorEq, Nat.reduceAdd, Nat.reduceSub, Nat.reduceMul, Nat.reduceEqDiff, Nat.reduceLT, Nat.reduceDiv, Nat.reduceMod, Nat.reduceLeDiff, ↓reduceIte, h4, decide_eq_false he]
      · have hne : ss ≠ tt := fun e => hl (by rw [e])
        simp only [go_sem, reduceCtorEq, Nat.reduceAdd, Nat.reduceSub, Nat.reduceMul, Nat.reduceEqDiff, Nat.reduceLT, Nat.reduceDiv, Nat.reduceMod, Nat.reduceLeDiff, ↓reduceIte, c17, e1, e2, hl, decide_eq_false hne]
theorem arm_all (T : TCode t) {p r : Nat} {A : AD} {O : Nat → Prop} (h : Disk H p A O) (hr : nn r) :
    ∃ H', (∀ (d : Nat) (k : K), callP (evP cp t fuel (d + 1)) (.func 36 []) [.ptr p 0, .int 3 r] H k = k (.tup []) H') ∧ Disk H' p { A with fuse := r } O ∧ Step H O H' O := by
  obtain ⟨D, h, h1, h2, h3, h4, rfl⟩ := h
  obtain ⟨g1, g2⟩ := Disk.put h (r := D.room) (f := r) (o := D.off) h.hr hr
  have hw := h.wf
  have hp := h.hp
  have hg := h.hg
  refine ⟨_, fun d k => ?_, ⟨_, g1, h1, h2, rfl, h4, rfl⟩, g2⟩
  have h5 : nn 0 := by unfold nn; decide
  have h6 : max r 0 = r := by omega
  simp only [DR.blk] at hg
  rw [call_entry T.k18 rfl rfl]
  simp only [go_sem, reduceCtorEq, Nat.reduceAdd, Nat.reduceSub, Nat.reduceMul, Nat.reduceEqDiff, Nat.reduceLT, Nat.reduceDiv, Nat.reduceMod, Nat.reduceLeDiff, ↓reduceIte, c18, DR.blk, hg, hw, hp, hr, h5, h6]
end
end Go.Ev
end
section
namespace Go.Ev
def hist : List (Nat × Tx) → List Wr → List Un
  | _, [] => []
  | es, w :: ws => (w.1, (find es w.1).getD (0, 0), (find es w.1).isSome) :: hist (updS es w.1 w.2) ws
theorem hist_snoc : ∀ {ws : List Wr} {es : List (Nat × Tx)} {w : Wr}, hist es (ws ++ [w]) = hist es ws ++ [(w.1, (find (laid es ws) w.1).getD (0, 0), (find (laid es ws) w.1).isSome)]
  | [], es, w => rfl
  | v :: ws, es, w => by
    show _ :: hist (updS es v.1 v.2) (ws ++ [w]) = _
    rw [hist_snoc]
    rfl
theorem hist_length : ∀ (ws : List Wr) (es : List (Nat × Tx)), (hist es ws).length = ws.length
  | [], es => rfl
  | w :: ws, es => by simp only [hist, List.length_cons, hist_length ws]
structure Hist (A : AD) (es0 : List (Nat × Tx)) (pre : List Wr) : Prop where
  es : A.es = laid es0 pre
  us : A.us = hist es0 pre
structure Dark (A B : AD) (es0 : List (Nat × Tx)) (pre : List Wr) : Prop where
  off : B.off = true
  fuse : B.fuse = 0
  len : B.len = A.len
  room : B.room = A.room
  hist : Hist B es0 pre
theorem wrs_crash : ∀ {ws : List Wr} {A : AD} {es0 : List (Nat × Tx)} {pre : List Wr}, A.off = false → Hist A es0 pre → (∀ w ∈ ws, w.2.1 = 32) →
    ((A.wrs ws).2 = 0 ∧ Hist (A.wrs ws).1 es0 (pre ++ ws) ∧ (A.wrs ws).1.off = false ∧ (A.wrs ws).1.len = A.len ∧ (A.wrs ws).1.room = A.room) ∨ ((A.wrs ws).2 = 6 ∧ ∃ ws1 ws2, ws = ws1 ++ ws2 ∧ Dark A (A.wrs ws).1 es0 (pre ++ ws1))
  | [], A, es0, pre, ho, h, _ => Or.inl ⟨rfl, by rw [List.append_nil]; exact h, ho, rfl, rfl⟩
  | w :: ws, A, es0, pre, ho, h, hl => by
    by_cases hf : A.fuse = 1
    · have hw : A.write w.1 w.2.2 = (A.dark, 6) := by simp only [AD.write, if_pos hf]
      right
      simp only [AD.wrs, hw]
      rw [if_neg (by decide)]
      exact ⟨rfl, [], w :: ws, rfl, ⟨rfl, rfl, rfl, rfl, by rw [List.append_nil]; exact ⟨h.es, h.us⟩⟩⟩
    · have hw : A.write w.1 w.2.2 = ({ A with fuse := A.fuse - 1, us := A.us ++ [(w.1, (find A.es w.1).getD (0, 0), (find A.es w.1).isSome)], es := updS A.es w.1 (32, w.2.2) }, 0) := by simp only [AD.write, if_neg hf]
      have h32 : (32, w.2.2) = w.2 := by rw [← hl w (List.mem_cons_self ..)]
      rw [h32] at hw
      simp only [AD.wrs, hw, if_true]
      have hh : Hist { A with fuse := A.fuse - 1, us := A.us ++ [(w.1, (find A.es w.1).getD (0, 0), (find A.es w.1).isSome)], es := updS A.es w.1 w.2 } es0 (pre ++ [w]) := by
        refine ⟨?_, ?_⟩
        · show updS A.es w.1 w.2 = _
          rw [laid_append, h.es]; rfl
        · show A.us ++ _ = _
          rw [hist_snoc, h.us, h.es]
      rcases wrs_crash (ws := ws) (A := { A with fuse := A.fuse - 1, us := A.us ++ [(w.1, (find A.es w.1).getD (0, 0), (find A.es w.1).isSome)], es := updS A.es w.1 w.2 }) ho hh (fun v hv => hl v (List.mem_cons_of_mem _ hv)) with ⟨q1, q2, q3, q4, q5⟩ | ⟨q1, ws1, ws2, q2, q3, q4, q5, q6, q7⟩
      · left
        rw [List.append_assoc] at q2
        exact ⟨q1, q2, q3, q4, q5⟩
      · right
        rw [List.append_assoc] at q7
        exact ⟨q1, w :: ws1, ws2, by rw [q2]; rfl, ⟨q3, q4, q5, q6, q7⟩⟩
theorem puts_crash {ws : List Wr} {A : AD} (ho : A.off = false) (hu : A.us = []) (hl : ∀ w ∈ ws, w.2.1 = 32) :
    ((A.puts ws).2 = 0 ∧ (A.puts ws).1.us = [] ∧ Went A (A.puts ws).1 (laid A.es ws)) ∨ ((A.puts ws).2 = 6 ∧ ∃ ws1 ws2, ws = ws1 ++ ws2 ∧ Dark A (A.puts ws).1 A.es ws1) := by
  rcases wrs_crash (ws := ws) (A := A) (es0 := A.es) (pre := []) ho ⟨rfl, hu⟩ hl with ⟨q1, q2, q3, q4, q5⟩ | ⟨q1, ws1, ws2, q2, q3⟩
  · rw [List.nil_append] at q2
    unfold AD.puts
    rw [if_pos q1]
    by_cases hf : (A.wrs ws).1.fuse = 1
    · right
      simp only [AD.flush, if_pos hf]
      exact ⟨trivial, ws, [], by simp, ⟨rfl, rfl, q4, q5, ⟨q2.es, q2.us⟩⟩⟩
    · left
      simp only [AD.flush, if_neg hf]
      exact ⟨trivial, trivial, ⟨q4, q5, by rw [ho]; exact q3, q2.es⟩⟩
  · right
    unfold AD.puts
    rw [if_neg (by omega)]
    exact ⟨q1, ws1, ws2, q2, q3⟩
theorem runs_crash : ∀ {l : List (List Wr)} {A : AD}, A.off = false → A.us = [] → (∀ ws ∈ l, ∀ w ∈ ws, w.2.1 = 32) →
    ((A.runs l).2 = 0 ∧ (A.runs l).1.us = [] ∧ Went A (A.runs l).1 (laid A.es l.flatten)) ∨ ((A.runs l).2 = 6 ∧ ∃ l1 ws l2 ws1 ws2, l = l1 ++ ws :: l2 ∧ ws = ws1 ++ ws2 ∧ Dark A (A.runs l).1 (laid A.es l1.flatten) ws1)
  | [], A, ho, hu, _ => Or.inl ⟨rfl, hu, ⟨rfl, rfl, rfl, rfl⟩⟩
  | ws :: l, A, ho, hu, hl => by
    simp only [AD.runs]
    rcases puts_crash (ws := ws) ho hu (hl ws (List.mem_cons_self ..)) with ⟨q1, q2, q3⟩ | ⟨q1, ws1, ws2, q2, q3⟩
    · rw [if_pos q1]
      obtain ⟨g1, g2, g3, g4⟩ := q3
      rcases runs_crash (l := l) (A := (A.puts ws).1) (g3.trans ho) q2 (fun us hus => hl us (List.mem_cons_of_mem _ hus)) with ⟨r1, r2, r3, r4, r5, r6⟩ | ⟨r1, l1, vs, l2, ws1, ws2, r2, r3, r4, r5, r6, r7, r8⟩
      · left
        exact ⟨r1, r2, ⟨r3.trans g1, r4.trans g2, r5.trans g3, by rw [r6, g4, List.flatten_cons, laid_append]⟩⟩
      · right
        refine ⟨r1, ws :: l1, vs, l2, ws1, ws2, by rw [r2]; rfl, r3, ⟨r4, r5, r6.trans g1, r7.trans g2, ?_⟩⟩
        rw [List.flatten_cons, laid_append, ← g4]
        exact r8
    · right
      rw [if_neg (by omega)]
      exact ⟨q1, [], ws, l, ws1, ws2, rfl, q2, q3⟩
def oldU (es : List (Nat × Tx)) (w : Wr) : Un := (w.1, (find es w.1).getD (0, 0), (find es w.1).isSome)
theorem hist_nodup : ∀ {ws : List Wr} {es es0 : List (Nat × Tx)}, (ws.map (·.1)).Nodup → (∀ w ∈ ws, find es w.1 = find es0 w.1) → hist es ws = ws.map (oldU es0)
  | [], _, _, _, _ => rfl
  | w :: ws, es, es0, hn, h => by
    rw [List.map_cons, List.nodup_cons] at hn
    have h0 := h w (List.mem_cons_self ..)
    show _ :: hist (updS es w.1 w.2) ws = _
    rw [hist_nodup hn.2 (es0 := es0) (fun v hv => by
      rw [find_updS, if_neg (fun e => hn.1 (List.mem_map.2 ⟨v, hv, e⟩))]
      exact h v (List.mem_cons_of_mem _ hv)), h0]
    rfl
theorem find_rest1 {len : Nat} {es es0 : List (Nat × Tx)} {w : Wr} (hk : EsOK len es) (k : Nat) : find (rest1 es (oldU es0 w)) k = if k = w.1 then find es0 k else find es k := by
  unfold rest1 oldU
  cases hs : find es0 w.1 with
  | some v =>
    simp only [Option.isSome_some, Option.getD_some, if_true]
    rw [find_updS]
    split
    · rename_i e; rw [e, hs]
    · rfl
  | none =>
    simp only [Option.isSome_none, Bool.false_eq_true, if_false]
    rw [find_del hk.nodup]
    split
    · rename_i e; rw [e, hs]
    · rfl
theorem rest1_ok {len : Nat} {es : List (Nat × Tx)} {u : Un} (hk : EsOK len es) (hu : u.1 < len) : EsOK len (rest1 es u) := by
  unfold rest1
  split
  · exact hk.updS hu
  · exact hk.del _
theorem restI_ok {len : Nat} {ws : List Wr} {es0 : List (Nat × Tx)} (hw : ∀ w ∈ ws, w.1 < len) : ∀ (i : Nat) (es : List (Nat × Tx)), i ≤ ws.length → EsOK len es → EsOK len (restI (ws.map (oldU es0)) i es) ∧ ∀ k, find (restI (ws.map (oldU es0)) i es) k = if k ∈ (ws.take i).map (·.1) then find es0 k else find es k
  | 0, es, _, hk => ⟨hk, fun k => by simp [restI]⟩
  | i + 1, es, hi, hk => by
    have hil : i < ws.length := by omega
    have hg : (ws.map (oldU es0))[i]? = some (oldU es0 ws[i]) := by rw [List.getElem?_map, List.getElem?_eq_getElem hil]; rfl
    have hmem : ws[i] ∈ ws := List.getElem_mem hil
    obtain ⟨h1, h2⟩ := restI_ok hw (es0 := es0) i (rest1 es (oldU es0 ws[i])) (by omega) (rest1_ok hk (hw _ hmem))
    simp only [restI, hg]
    refine ⟨h1, fun k => ?_⟩
    have hiff : k ∈ (ws.take (i + 1)).map (·.1) ↔ k ∈ (ws.take i).map (·.1) ∨ k = ws[i].1 := by
      rw [List.take_succ_eq_append_getElem hil, List.map_append, List.mem_append]
      simp
    rw [h2, find_rest1 hk]
    by_cases hk1 : k ∈ (ws.take i).map (·.1)
    · rw [if_pos hk1, if_pos (hiff.2 (Or.inl hk1))]
    · rw [if_neg hk1]
      by_cases hk2 : k = ws[i].1
      · rw [if_pos hk2, if_pos (hiff.2 (Or.inr hk2))]
      · rw [if_neg hk2, if_neg (fun h => (hiff.1 h).elim hk1 hk2)]
theorem mem_updS : ∀ {l : List (Nat × Tx)} {a : Nat} {v : Tx} {e : Nat × Tx}, e ∈ updS l a v → e ∈ l ∨ e = (a, v)
  | [], a, v, e, h => by simp [updS] at h; exact Or.inr h
  | p :: l, a, v, e, h => by
    unfold updS at h
    split at h
    · rename_i hp
      rcases List.mem_cons.1 h with rfl | h
      · exact Or.inr (by rw [hp])
      · exact Or.inl (List.mem_cons_of_mem _ h)
    · rcases List.mem_cons.1 h with rfl | h
      · exact Or.inl (List.mem_cons_self ..)
      · exact (mem_updS h).imp (List.mem_cons_of_mem _) id
theorem lastN_ok {len : Nat} {ws : List Wr} {es0 es : List (Nat × Tx)} {bs : List Bool} (hn : (ws.map (·.1)).Nodup) (hw : ∀ w ∈ ws, w.1 < len) (he : ∀ w ∈ ws, find es w.1 = some w.2) : ∀ i, EsOK len (lastN es (ws.map (oldU es0)) bs i) ∧ ∀ e ∈ lastN es (ws.map (oldU es0)) bs i, e ∈ ws
  | 0 => ⟨EsOK.nil, fun e h => by cases h⟩
  | i + 1 => by
    obtain ⟨h1, h2⟩ := lastN_ok (es0 := es0) (bs := bs) hn hw he i
    simp only [lastN]
    split
    · rw [List.getElem?_map]
      cases hi : ws[i]? with
      | none => exact ⟨h1, h2⟩
      | some w =>
        have hm := List.mem_of_getElem? hi
        have hil := (List.getElem?_eq_some_iff.1 hi).1
        have hwr : writtenL es (ws.map (oldU es0)) i w.1 = w.2 := by
          unfold writtenL
          have hno : ((ws.map (oldU es0)).drop (i + 1)).find? (fun u => u.1 == w.1) = none := by
            rw [List.find?_eq_none]
            intro u hu hq
            rw [← List.map_drop] at hu
            obtain ⟨v, hv, rfl⟩ := List.mem_map.1 hu
            have hv1 : v.1 = w.1 := by simpa [oldU] using hq
            obtain ⟨j, hj⟩ := List.getElem?_of_mem hv
            rw [List.getElem?_drop] at hj
            obtain ⟨hjl, hj2⟩ := List.getElem?_eq_some_iff.1 hj
            obtain ⟨_, hi2⟩ := List.getElem?_eq_some_iff.1 hi
            have := (List.nodup_iff_pairwise_ne.1 hn)
            have h3 := (List.pairwise_iff_getElem.1 hn) i (i + 1 + j) (by simpa using hil) (by simpa using hjl) (by omega)
            simp only [List.getElem_map, hi2, hj2] at h3
            exact h3 hv1.symm
          rw [hno, he w hm]
          rfl
        show EsOK len (updS (lastN es (ws.map (oldU es0)) bs i) w.1 (writtenL es (ws.map (oldU es0)) i w.1)) ∧ ∀ e ∈ updS (lastN es (ws.map (oldU es0)) bs i) w.1 (writtenL es (ws.map (oldU es0)) i w.1), e ∈ ws
        rw [hwr]
        exact ⟨h1.updS (hw w hm), fun e he' => (mem_updS he').elim (h2 e) fun e' => by rw [e']; exact hm⟩
    · exact ⟨h1, h2⟩
structure Torn (len : Nat) (es0 : List (Nat × Tx)) (ws : List Wr) (es : List (Nat × Tx)) : Prop where
  keys : EsOK len es
  at_ : ∀ k, find es k = find es0 k ∨ ∃ w ∈ ws, w.1 = k ∧ find es k = some w.2
theorem wake_torn {A B : AD} {es0 : List (Nat × Tx)} {ws : List Wr} (h : Dark A B es0 ws) (hk : EsOK B.len es0) (hn : (ws.map (·.1)).Nodup) (hw : ∀ w ∈ ws, w.1 < B.len) (bs : List Bool) : Torn B.len es0 ws (B.wakeEs bs) := by
  obtain ⟨_, _, _, _, h1, h2⟩ := h
  have hh := hist_nodup (es := es0) (es0 := es0) hn fun _ _ => rfl
  rw [hh] at h2
  have hkB : EsOK B.len B.es := by rw [h1]; exact hk.laid hw
  obtain ⟨r1, r2⟩ := restI_ok (es0 := es0) hw ws.length B.es (Nat.le_refl _) hkB
  have hfe : ∀ w ∈ ws, find B.es w.1 = some w.2 := fun w hm => by rw [h1]; exact find_laid_mem hn hm
  obtain ⟨l1, l2⟩ := lastN_ok (len := B.len) (es0 := es0) (es := B.es) (bs := bs) hn hw hfe ws.length
  have hul : B.us.length = ws.length := by rw [h2, List.length_map]
  have hw' : B.wakeEs bs = laid (restI (ws.map (oldU es0)) ws.length B.es) (lastN B.es (ws.map (oldU es0)) bs ws.length) := by
    unfold AD.wakeEs
    rw [hul, h2]
  have hb : ∀ k, find (restI (ws.map (oldU es0)) ws.length B.es) k = find es0 k := fun k => by
    rw [r2, List.take_length]
    split
    · rfl
    · rename_i hm; rw [h1, find_laid_not hm]
  rw [hw']
  refine ⟨r1.laid fun e he => hw e (l2 e he), fun k => ?_⟩
  by_cases hm : k ∈ (lastN B.es (ws.map (oldU es0)) bs ws.length).map (·.1)
  · obtain ⟨e, he, rfl⟩ := List.mem_map.1 hm
    exact Or.inr ⟨e, l2 e he, rfl, find_laid_mem l1.nodup he⟩
  · exact Or.inl (by rw [find_laid_not hm, hb])
end Go.Ev
end
section
namespace Go.Ev
theorem find_isSome {es : List (Nat × Tx)} {k : Nat} : (find es k).isSome = true ↔ k ∈ es.map (·.1) := by
  unfold find
  rw [Option.isSome_map, List.find?_isSome]
  constructor
  · rintro ⟨x, hx, e⟩
    exact List.mem_map.2 ⟨x, hx, by simpa using e⟩
  · intro h
    obtain ⟨x, hx, e⟩ := List.mem_map.1 h
    exact ⟨x, hx, by simpa using e⟩
def KIn (es : List (Nat × Tx)) (K : List Nat) : Prop := ∀ k, (find es k).isSome = true → k ∈ K
theorem KIn.laid {K : List Nat} : ∀ {ws : List Wr} {es : List (Nat × Tx)}, KIn es K → (∀ w ∈ ws, w.1 ∈ K) → KIn (laid es ws) K
  | [], es, h, _ => h
  | w :: ws, es, h, hw => KIn.laid (ws := ws) (es := updS es w.1 w.2) (fun k hk => by
      rw [find_updS] at hk
      by_cases e : k = w.1
      · rw [e]; exact hw w (List.mem_cons_self ..)
      · rw [if_neg e] at hk; exact h k hk) fun v hv => hw v (List.mem_cons_of_mem _ hv)
def Rm (room : Nat) (es : List (Nat × Tx)) (ws : List Wr) : Prop := (∀ w ∈ ws, (find es w.1).isSome = true) ∨ ∃ K : List Nat, K.length ≤ room ∧ KIn es K ∧ ∀ w ∈ ws, w.1 ∈ K
theorem roomy_keys {room : Nat} {K : List Nat} (hK : K.length ≤ room) : ∀ {ws : List Wr} {es : List (Nat × Tx)}, (es.map (·.1)).Nodup → KIn es K → (∀ w ∈ ws, w.1 ∈ K) → roomy room es ws
  | [], _, _, _, _ => trivial
  | w :: ws, es, hn, h, hw => by
    refine ⟨?_, roomy_keys hK (ws := ws) ?_ ?_ fun v hv => hw v (List.mem_cons_of_mem _ hv)⟩
    · by_cases hs : (find es w.1).isSome = true
      · exact Or.inl hs
      · right
        have hno : w.1 ∉ es.map (·.1) := fun hm => hs (find_isSome.2 hm)
        have h1 : (w.1 :: es.map (·.1)).Nodup := List.nodup_cons.2 ⟨hno, hn⟩
        have h2 : (w.1 :: es.map (·.1)) ⊆ K := fun k hk => by
          rcases List.mem_cons.1 hk with rfl | hk
          · exact hw w (List.mem_cons_self ..)
          · exact h k (find_isSome.2 hk)
        have := List.Nodup.length_le_of_subset h1 h2
        simp only [List.length_cons, List.length_map] at this
        omega
    · rw [updS_keys]
      split
      · exact hn
      · rename_i hno
        exact List.nodup_append.2 ⟨hn, by simp, fun x hx y hy => by rw [List.mem_singleton.1 hy]; rintro rfl; exact hno hx⟩
    · intro k hk
      rw [find_updS] at hk
      by_cases e : k = w.1
      · rw [e]; exact hw w (List.mem_cons_self ..)
      · rw [if_neg e] at hk; exact h k hk
theorem Rm.roomy {room len : Nat} {es : List (Nat × Tx)} {ws : List Wr} (h : Rm room es ws) (hk : EsOK len es) : roomy room es ws := by
  rcases h with h | ⟨K, h1, h2, h3⟩
  · exact roomy_some h
  · exact roomy_keys h1 hk.nodup h2 h3
theorem Rm.torn {room len : Nat} {es0 es : List (Nat × Tx)} {ws ws1 : List Wr} (h : Rm room es0 ws) (t : Torn len es0 ws1 es) (hs : ∀ w ∈ ws1, w ∈ ws) : Rm room es ws := by
  rcases h with h | ⟨K, h1, h2, h3⟩
  · left
    intro w hw
    rcases t.at_ w.1 with e | ⟨v, _, _, e⟩
    · rw [e]; exact h w hw
    · rw [e]; rfl
  · refine Or.inr ⟨K, h1, fun k hk => ?_, h3⟩
    rcases t.at_ k with e | ⟨v, hv, rfl, e⟩
    · rw [e] at hk; exact h2 k hk
    · exact h3 v (hs v hv)
structure RD (pk : List UInt8 → List (List UInt8)) (A : AD) (a n : Nat) (ws : List Wr) (g : Nat → Option Tx) : Prop where
  off : A.off = false
  keys : EsOK A.len A.es
  us : A.us = []
  can : CanCommit A a n
  record : n ≠ 0 → n = (pk (recT ws)).length ∧ (∀ i (h : i < (pk (recT ws)).length), A.read (1 + a * 72 + i) = tx (pk (recT ws))[i]) ∧ RecOK ws ∧ ws ≠ [] ∧ mayP A.len [] ws = true
  rm : n ≠ 0 → Rm A.room A.es ws
  goal : ∀ k, 145 ≤ k → find (if n = 0 then A.es else laid A.es ws) k = g k
variable {pk : List UInt8 → List (List UInt8)} {unpk : List (List UInt8) → Option (List UInt8)}
theorem RD.rec_ {A : AD} {a n : Nat} {ws : List Wr} {g : Nat → Option Tx} (R : RD pk A a n ws g) : CanRecover A pk a n ws := ⟨R.can, fun h => let ⟨q1, q2, q3, q4, q5⟩ := R.record h; ⟨q1, q2, q3, q4, q5, (R.rm h).roomy R.keys⟩⟩
theorem JD.rd {A : AD} {a n : Nat} {ws : List Wr} (J : JD pk A a n ws) : RD pk A a n ws (find A.es) :=
  ⟨J.off, J.keys, J.us, J.rec_.can, fun h => let ⟨q1, q2, q3, q4, q5, _⟩ := J.rec_.record h; ⟨q1, q2, q3, q4, q5⟩, fun h => Or.inl fun w hw => by rw [J.some_ h w hw]; rfl, fun k _ => by
    by_cases h : n = 0
    · rw [if_pos h]
    · rw [if_neg h]; exact laid_same (J.some_ h)⟩
theorem RD.with_fuse {A : AD} {a n f : Nat} {ws : List Wr} {g : Nat → Option Tx} (R : RD pk A a n ws g) : RD pk { A with fuse := f } a n ws g := by
  obtain ⟨h1, h2, h3, ⟨k1, k2, k3, k4, k5, k6, k7⟩, h5, h6, h7⟩ := R
  exact ⟨h1, h2, h3, ⟨k1, k2, k3, k4, k5, k6, k7⟩, h5, h6, h7⟩
theorem JD.with_fuse {A : AD} {a n f : Nat} {ws : List Wr} (J : JD pk A a n ws) : JD pk { A with fuse := f } a n ws := by
  obtain ⟨h1, h2, h3, ⟨⟨k1, k2, k3, k4, k5, k6, k7⟩, k8⟩, h5⟩ := J
  exact ⟨h1, h2, h3, ⟨⟨k1, k2, k3, k4, k5, k6, k7⟩, k8⟩, h5⟩
theorem prefix_nodup {ws ws1 ws2 : List Wr} (h : ws = ws1 ++ ws2) (hn : (ws.map (·.1)).Nodup) : (ws1.map (·.1)).Nodup := by
  rw [h, List.map_append] at hn
  exact (List.nodup_append.1 hn).1
theorem RD.recover {A : AD} {a n : Nat} {ws : List Wr} {g : Nat → Option Tx} (R : RD pk A a n ws g) :
    ((A.recover n ws).2 = 0 ∧ JD pk (A.recover n ws).1 a n ws ∧ (A.recover n ws).1.len = A.len ∧ (A.recover n ws).1.room = A.room ∧ ∀ k, 145 ≤ k → find (A.recover n ws).1.es k = g k) ∨
    (A.fuse ≠ 0 ∧ (A.recover n ws).2 = 6 ∧ (A.recover n ws).1.off = true ∧ (A.recover n ws).1.fuse = 0 ∧ (A.recover n ws).1.len = A.len ∧ (A.recover n ws).1.us.length < 1000000 ∧ (A.recover n ws).1.es.length < 1000000 ∧ ∀ bs, RD pk ((A.recover n ws).1.wake bs) a n ws g) := by
  obtain ⟨h1, h2, h3, ⟨k1, k2, k3, k4, k5, k6, k7⟩, h5, h6, h7⟩ := R
  unfold AD.recover
  rw [if_neg (by rw [h1]; exact Bool.false_ne_true)]
  by_cases hn : n = 0
  · rw [if_pos hn]
    left
    refine ⟨rfl, ⟨h1, h2, h3, ⟨⟨k1, k2, k3, k4, k5, k6, k7⟩, fun h => absurd hn h⟩, fun h => absurd hn h⟩, rfl, rfl, fun k hk => ?_⟩
    have := h7 k hk
    rwa [if_pos hn] at this
  · rw [if_neg hn]
    obtain ⟨r1, r2, r3, r4, r5⟩ := h5 hn
    obtain ⟨hgood, hnd⟩ := mayP_good r5
    have h7' := fun k hk => h7 k hk
    simp only [if_neg hn] at h7'
    have hnw : ∀ k, k < 145 → k ∉ ws.map (·.1) := fun k hk hm => by
      obtain ⟨v, hv, e⟩ := List.mem_map.1 hm
      have := (hgood v hv).1.1
      omega
    have hlt : ∀ w ∈ ws, w.1 < A.len := fun w hw => (hgood w hw).1.2.1
    have hps : ∀ i, i < (pk (recT ws)).length → 1 + a * 72 + i < 145 := fun i hi => by omega
    rcases runs_crash (l := [ws]) h1 h3 (fun us hus w hw => by rw [List.mem_singleton.1 hus] at hw; exact r3.len w hw) with ⟨q1, q2, q3, q4, q5, q6⟩ | ⟨q1, l1, vs, l2, ws1, ws2, q2, q3, q4⟩
    · left
      simp only [List.flatten_cons, List.flatten_nil, List.append_nil] at q6
      have hkB : EsOK (A.runs [ws]).1.len (A.runs [ws]).1.es := by rw [q3, q6]; exact h2.laid hlt
      have hlen := hkB.length
      have hsome : ∀ w ∈ ws, find (A.runs [ws]).1.es w.1 = some w.2 := fun w hw => by rw [q6]; exact find_laid_mem hnd hw
      have hrd : ∀ k, k < 145 → (A.runs [ws]).1.read k = A.read k := fun k hk => by rw [AD.read, AD.read, q6, find_laid_not (hnw k hk)]
      refine ⟨q1, ⟨q5.trans h1, hkB, q2, ⟨⟨by omega, by omega, by omega, by rw [q2]; simp, by rw [hrd 0 (by omega)]; exact k5, k6, k7⟩, fun _ => ⟨r1, fun i hi => by rw [hrd _ (hps i hi)]; exact r2 i hi, r3, r4, by rw [q3]; exact r5, roomy_some fun w hw => by rw [hsome w hw]; rfl⟩⟩, fun _ => hsome⟩, q3, q4, fun k hk => ?_⟩
      rw [q6]; exact h7' k hk
    · right
      have hl1 : l1 = [] ∧ vs = ws := by
        cases l1 with
        | nil => simp only [List.nil_append, List.cons.injEq] at q2; exact ⟨rfl, q2.1.symm⟩
        | cons x l1 => simp at q2
      obtain ⟨rfl, rfl⟩ := hl1
      simp only [List.flatten_nil] at q4
      have hq4 : laid A.es [] = A.es := rfl
      rw [hq4] at q4
      have hsub : ∀ w ∈ ws1, w ∈ vs := fun w hw => by rw [q3]; exact List.mem_append_left _ hw
      have hfz : A.fuse ≠ 0 := fun h0 => by have := (runs_calm (l := [vs]) h0).1; omega
      have hBl := q4.len
      have hke : EsOK (A.runs [vs]).1.len (A.runs [vs]).1.es := by rw [q4.hist.es, hBl]; exact h2.laid fun w hw => hlt w (hsub w hw)
      have hBe := hke.length
      have hul : (A.runs [vs]).1.us.length = ws1.length := by rw [q4.hist.us, hist_length]
      have hw1 : ws1.length ≤ vs.length := by rw [q3, List.length_append]; omega
      have hnum := r3.num
      refine ⟨hfz, q1, q4.off, q4.fuse, hBl, by omega, by omega, fun bs => ?_⟩
      have ht := wake_torn q4 (by rw [hBl]; exact h2) (prefix_nodup q3 hnd) (fun w hw => by rw [hBl]; exact hlt w (hsub w hw)) bs
      have hks := ht.keys
      have hrd : ∀ k, k < 145 → find ((A.runs [vs]).1.wakeEs bs) k = find A.es k := fun k hk => by
        rcases ht.at_ k with e | ⟨w, hw, e, _⟩
        · exact e
        · exact absurd (List.mem_map.2 ⟨w, hsub w hw, e⟩) (hnw k hk)
      have hread : ∀ k, k < 145 → ((A.runs [vs]).1.wake bs).read k = A.read k := fun k hk => by
        show (find ((A.runs [vs]).1.wakeEs bs) k).getD (32, 0) = (find A.es k).getD (32, 0)
        rw [hrd k hk]
      have hlW : ((A.runs [vs]).1.wake bs).len = A.len := hBl
      have hel := hks.length
      refine ⟨rfl, hks, rfl, ⟨by rw [hlW]; exact k1, by rw [hlW]; exact k2, by show ((A.runs [vs]).1.wakeEs bs).length < _; omega, by show 0 < _; omega, by rw [hread 0 (by omega)]; exact k5, k6, k7⟩, fun _ => ⟨r1, fun i hi => by rw [hread _ (hps i hi)]; exact r2 i hi, r3, r4, by rw [hlW]; exact r5⟩, fun _ => ?_, fun k hk => ?_⟩
      · have : ((A.runs [vs]).1.wake bs).room = A.room := q4.room
        rw [this]
        exact (h6 hn).torn ht hsub
      · rw [if_neg hn, ← h7' k hk]
        show find (laid ((A.runs [vs]).1.wakeEs bs) vs) k = _
        by_cases hm : k ∈ vs.map (·.1)
        · obtain ⟨w, hw, rfl⟩ := List.mem_map.1 hm
          rw [find_laid_mem hnd hw, find_laid_mem hnd hw]
        · rw [find_laid_not hm, find_laid_not hm]
          rcases ht.at_ k with e | ⟨w, hw, e, _⟩
          · exact e
          · exact absurd (List.mem_map.2 ⟨w, hsub w hw, e⟩) hm
end Go.Ev
end
section
namespace Go.Ev
theorem fits_rm {A : AD} {ns : List Nat} {ws : List Wr} (h : A.fits ns = true) (hw : ∀ w ∈ ws, w.1 ∈ ns) : Rm A.room A.es ws := by
  have h := of_decide_eq_true h
  have hin : ∀ n ∈ ns, (find A.es n).isSome = true ∨ n ∈ (frs A.es ns ns.length).map (·.1) := fun n hn => by
    obtain ⟨i, hi, rfl⟩ := List.mem_iff_getElem.1 hn
    have hg : ns.getD i 0 = ns[i] := by rw [List.getD_eq_getElem?_getD, List.getElem?_eq_getElem hi]; rfl
    by_cases hs : (find A.es ns[i]).isSome = true
    · exact Or.inl hs
    · right
      have := frs_keys (es := A.es) (ns := ns) ns.length i hi (by rw [hg]; simpa using hs)
      rwa [hg] at this
  rcases h with h | h
  · left
    intro w hm
    rcases hin w.1 (hw w hm) with h1 | h1
    · exact h1
    · rw [List.eq_nil_of_length_eq_zero h] at h1; cases h1
  · refine Or.inr ⟨A.es.map (·.1) ++ (frs A.es ns ns.length).map (·.1), by simp only [List.length_append, List.length_map]; exact h, fun k hk => List.mem_append_left _ (find_isSome.1 hk), fun w hm => ?_⟩
    rcases hin w.1 (hw w hm) with h1 | h1
    · exact List.mem_append_left _ (find_isSome.1 h1)
    · exact List.mem_append_right _ h1
theorem Rm.laid {room : Nat} {es : List (Nat × Tx)} {ws us : List Wr} (h : Rm room es ws) (hs : ∀ w ∈ us, w ∈ ws) : Rm room (laid es us) ws := by
  rcases h with h | ⟨K, h1, h2, h3⟩
  · exact Or.inl fun w hw => find_laid_some (h w hw)
  · exact Or.inr ⟨K, h1, h2.laid fun w hw => h3 w (hs w hw), h3⟩
theorem Rm.sub {room : Nat} {es : List (Nat × Tx)} {ws us : List Wr} (h : Rm room es ws) (hs : ∀ w ∈ us, w ∈ ws) : Rm room es us := by
  rcases h with h | ⟨K, h1, h2, h3⟩
  · exact Or.inl fun w hw => h w (hs w hw)
  · exact Or.inr ⟨K, h1, h2, fun w hw => h3 w (hs w hw)⟩
variable {pk : List UInt8 → List (List UInt8)} {unpk : List (List UInt8) → Option (List UInt8)}
theorem RD.old {A B : AD} {a n : Nat} {us : List Wr} (J : JD pk A a n us) (ho : B.off = false) (hu : B.us = []) (hl : B.len = A.len) (hk : EsOK B.len B.es) (h0 : find B.es 0 = find A.es 0) (ha : ∀ i, i < 72 → find B.es (1 + a * 72 + i) = find A.es (1 + a * 72 + i)) (hf : ∀ k, 145 ≤ k → find B.es k = find A.es k) : RD pk B a n us (find A.es) := by
  obtain ⟨h1, h2, h3, ⟨⟨k1, k2, k3, k4, k5, k6, k7⟩, k8⟩, h5⟩ := J
  have hlB := hk.length
  refine ⟨ho, hk, hu, ⟨by omega, by omega, by omega, by rw [hu]; show 0 < _; omega, by rw [AD.read, h0]; exact k5, k6, k7⟩, fun hn => ?_, fun hn => Or.inl fun w hw => ?_, fun k hk' => ?_⟩
  · obtain ⟨q1, q2, q3, q4, q5, _⟩ := k8 hn
    exact ⟨q1, fun i hi => by rw [AD.read, ha i (by omega)]; exact q2 i hi, q3, q4, by rw [hl]; exact q5⟩
  · obtain ⟨_, _, _, _, q5, _⟩ := k8 hn
    rw [hf _ ((mayP_good q5).1 w hw).1.1, h5 hn w hw]; rfl
  · by_cases hn : n = 0
    · rw [if_pos hn, hf k hk']
    · rw [if_neg hn, find_laid_congr (hf k hk'), laid_same (h5 hn)]
theorem RD.new {A B : AD} {a n m : Nat} {us ws : List Wr} (J : JD pk A a n us) (hm : mayP A.len [] ws = true) (hrec : RecOK ws) (h0 : ws ≠ []) (hmn : m = (pk (recT ws)).length) (hm72 : m ≤ 72) (hm0 : m ≠ 0) (ho : B.off = false) (hu : B.us = []) (hl : B.len = A.len) (hk : EsOK B.len B.es) (hh : find B.es 0 = some (tx (hdr (1 - a) m))) (hfst : ∀ i (h : i < (pk (recT ws)).length), find B.es (1 + (1 - a) * 72 + i) = some (tx (pk (recT ws))[i])) (hf : ∀ k, 145 ≤ k → k ∉ ws.map (·.1) → find B.es k = find A.es k) (hr : Rm B.room B.es ws) : RD pk B (1 - a) m ws (find (laid A.es ws)) := by
  obtain ⟨h1, h2, h3, ⟨⟨k1, k2, k3, k4, k5, k6, k7⟩, k8⟩, h5⟩ := J
  have hlB := hk.length
  obtain ⟨hgood, hnd⟩ := mayP_good hm
  refine ⟨ho, hk, hu, ⟨by omega, by omega, by omega, by rw [hu]; show 0 < _; omega, by rw [AD.read, hh]; rfl, by omega, hm72⟩, fun hn => ⟨hmn, fun i hi => by rw [AD.read, hfst i hi]; rfl, hrec, h0, by rw [hl]; exact hm⟩, fun hn => hr, fun k hk' => ?_⟩
  rw [if_neg hm0]
  by_cases hin : k ∈ ws.map (·.1)
  · obtain ⟨w, hw, rfl⟩ := List.mem_map.1 hin
    rw [find_laid_mem hnd hw, find_laid_mem hnd hw]
  · rw [find_laid_not hin, find_laid_not hin, hf k hk' hin]
structure Cut (pk : List UInt8 → List (List UInt8)) (A : AD) (ws : List Wr) (B : AD × Nat) : Prop where
  off : B.1.off = true
  e : B.2 = 6
  fuse : B.1.fuse = 0
  lit : A.fuse ≠ 0
  len : B.1.len = A.len
  room : B.1.room = A.room
  us : B.1.us.length < 1000000
  es : B.1.es.length < 1000000
  next : ∀ bs, ∃ a n us g, RD pk (B.1.wake bs) a n us g ∧ ((∀ k, 145 ≤ k → g k = find A.es k) ∨ (∀ k, 145 ≤ k → g k = find (laid A.es ws) k))
structure Ran (pk : List UInt8 → List (List UInt8)) (A : AD) (ws : List Wr) (B B0 : AD × Nat) : Prop where
  off : B.1.off = false
  e : B.2 = B0.2
  len : B.1.len = A.len
  room : B.1.room = A.room
  es : B.1.es = B0.1.es
  jd : ∃ a n us, JD pk B.1 a n us
theorem JD.commit_any (F : FrameOK pk unpk) {A : AD} {a n : Nat} {us ws : List Wr} (J : JD pk A a n us) (hws : ∀ w ∈ ws, okT w.2) :
    Ran pk A ws (A.commit pk a ws) (({ A with fuse := 0 } : AD).commit pk a ws) ∨ (Cut pk A ws (A.commit pk a ws) ∧ (({ A with fuse := 0 } : AD).commit pk a ws).2 = 0) := by
  have same : ∀ e, Ran pk A ws (A, e) ({ A with fuse := 0 }, e) := fun e => ⟨J.off, rfl, rfl, rfl, rfl, ⟨_, _, _, J⟩⟩
  unfold AD.commit
  rw [if_neg (by rw [J.off]; exact Bool.false_ne_true), if_neg (show ¬ ({ A with fuse := 0 } : AD).off = true by rw [show ({ A with fuse := 0 } : AD).off = A.off from rfl, J.off]; exact Bool.false_ne_true)]
  by_cases h0 : ws.length = 0
  · rw [if_pos h0, if_pos h0]; exact Or.inl (same 0)
  rw [if_neg h0, if_neg h0]
  by_cases h6 : 60 < ws.length
  · rw [if_pos h6, if_pos h6]; exact Or.inl (same 3)
  rw [if_neg h6, if_neg h6]
  by_cases hm : mayP A.len [] ws = false
  · rw [if_pos hm, if_pos (show mayP ({ A with fuse := 0 } : AD).len [] ws = false from hm)]; exact Or.inl (same 2)
  rw [if_neg hm, if_neg (show ¬ mayP ({ A with fuse := 0 } : AD).len [] ws = false from hm)]
  have hm : mayP A.len [] ws = true := by simpa using hm
  by_cases hfit : A.fits (0 :: (outs (1 - a) (pk (recT ws)) ++ ws).map (·.1)) = true
  · rw [if_pos hfit, if_pos (show ({ A with fuse := 0 } : AD).fits (0 :: (outs (1 - a) (pk (recT ws)) ++ ws).map (·.1)) = true from hfit)]
    obtain ⟨hgood, hnd⟩ := mayP_good hm
    have hJ := J
    obtain ⟨h1, h2, h3, ⟨⟨k1, k2, k3, k4, k5, k6, k7⟩, k8⟩, h5⟩ := J
    have hrec : RecOK ws := ⟨by omega, fun w hw => by have := (hgood w hw).1.2.1; omega, fun w hw => (hgood w hw).1.2.2, hws⟩
    have htl := hrec.text
    have hpkn := F.num _ htl
    have hpkp := F.pos (recT ws) (by omega)
    have hpkl := F.len (recT ws) (by omega)
    have ha1 : 1 - a < 2 := by omega
    have hwn : ws ≠ [] := fun h => h0 (by rw [h]; rfl)
    have hm0 : (pk (recT ws)).length ≠ 0 := fun h => hpkp (List.eq_nil_of_length_eq_zero h)
    have hout := outs_good (a := 1 - a) ha1 hpkn hpkl
    have hond := outs_nodup (1 - a) (pk (recT ws))
    have hom : ∀ i (h : i < (pk (recT ws)).length), ((1 + (1 - a) * 72 + i, tx (pk (recT ws))[i]) : Wr) ∈ outs (1 - a) (pk (recT ws)) := fun i h => by
      simp only [outs, List.mem_mapIdx]
      exact ⟨i, h, rfl⟩
    have houtm : ∀ w ∈ outs (1 - a) (pk (recT ws)), 1 + (1 - a) * 72 ≤ w.1 ∧ w.1 < 1 + (1 - a) * 72 + 72 := fun w hw => by
      obtain ⟨i, hi, rfl⟩ := outs_mem hw
      exact ⟨Nat.le_add_right _ _, by show 1 + (1 - a) * 72 + i < _; omega⟩
    have hhd := hdr_wr (1 - a) (pk (recT ws)).length
    have h32 : ∀ l ∈ [outs (1 - a) (pk (recT ws)), [(0, tx (hdr (1 - a) (pk (recT ws)).length))], ws], ∀ w ∈ l, w.2.1 = 32 := fun us hus w hw => by
      simp only [List.mem_cons, List.not_mem_nil, or_false] at hus
      rcases hus with rfl | rfl | rfl
      · exact (hout w hw).2
      · rw [List.mem_singleton.1 hw]; exact hhd
      · exact (hgood w hw).1.2.2
    have hrm : Rm A.room A.es (outs (1 - a) (pk (recT ws)) ++ (0, tx (hdr (1 - a) (pk (recT ws)).length)) :: ws) := fits_rm hfit fun w hw => by
      rcases List.mem_append.1 hw with h | h
      · exact List.mem_cons_of_mem _ (List.mem_map.2 ⟨w, List.mem_append_left _ h, rfl⟩)
      · rcases List.mem_cons.1 h with rfl | h
        · exact List.mem_cons_self ..
        · exact List.mem_cons_of_mem _ (List.mem_map.2 ⟨w, List.mem_append_right _ h, rfl⟩)
    have hran := fun (B : AD) => hJ.ran (B := B) F hm (by omega) hwn hws
    obtain ⟨z1, z2⟩ := runs_calm (A := { A with fuse := 0 }) (l := [outs (1 - a) (pk (recT ws)), [(0, tx (hdr (1 - a) (pk (recT ws)).length))], ws]) rfl
    obtain ⟨⟨zz1, zz2, zz3, zz4⟩, _⟩ := runs_went (A := { A with fuse := 0 }) h32 z1
    have hnw : ∀ k, k < 145 → k ∉ ws.map (·.1) := fun k hk hm => by
      obtain ⟨v, hv, e⟩ := List.mem_map.1 hm
      have := (hgood v hv).1.1
      omega
    generalize hq : outs (1 - a) (pk (recT ws)) = first at *
    generalize hdq : tx (hdr (1 - a) (pk (recT ws)).length) = hd at *
    have hnf : ∀ k, (k < 1 + (1 - a) * 72 ∨ 1 + (1 - a) * 72 + 72 ≤ k) → k ∉ first.map (·.1) := fun k hk hm => by
      obtain ⟨v, hv, e⟩ := List.mem_map.1 hm
      have := houtm v hv
      omega
    have hk1 : EsOK A.len (laid A.es first) := h2.laid fun v hv => by have := (hout v hv).1; omega
    have hk2 : EsOK A.len (laid A.es (first ++ [(0, hd)])) := by rw [laid_append]; exact hk1.laid fun v hv => by rw [List.mem_singleton.1 hv]; show 0 < A.len; omega
    have hf1 : ∀ i (h : i < (pk (recT ws)).length), find (laid A.es first) (1 + (1 - a) * 72 + i) = some (tx (pk (recT ws))[i]) := fun i h => by
      have := hom i h
      exact find_laid_mem hond this
    have hf2 : ∀ k, find (laid A.es (first ++ [(0, hd)])) k = if k = 0 then some hd else find (laid A.es first) k := fun k => by
      rw [laid_append]; exact find_updS _ _ _ _
    have a01 : ∀ i, i < 72 → (1 + a * 72 + i < 1 + (1 - a) * 72 ∨ 1 + (1 - a) * 72 + 72 ≤ 1 + a * 72 + i) := fun i hi => by omega
    have hfl : (pk (recT ws)).length = first.length := by rw [← hq, outs_length]
    rcases runs_crash (A := A) (l := [first, [(0, hd)], ws]) h1 h3 h32 with ⟨q1, q2, q3⟩ | ⟨q1, l1, vs, l2, ws1, ws2, q2, q3, q4⟩
    · left
      have q3' : Went A (A.runs [first, [(0, hd)], ws]).1 (laid A.es (first ++ (0, hd) :: ws)) := by simpa using q3
      obtain ⟨j1, j2⟩ := hran _ q3' q2
      exact ⟨q3.off.trans h1, q1.trans z1.symm, q3.len, q3.room, q3.es.trans zz4.symm, ⟨_, _, _, j1⟩⟩
    · right
      refine ⟨?_, z1⟩
      have hfz : A.fuse ≠ 0 := fun h0 => by have := (runs_calm (l := [first, [(0, hd)], ws]) h0).1; omega
      have hBl := q4.len
      have hBr := q4.room
      have hw1 : ws1.length ≤ vs.length := by rw [q3, List.length_append]; omega
      have hul : (A.runs [first, [(0, hd)], ws]).1.us.length = ws1.length := by rw [q4.hist.us, hist_length]
      have hsub : ∀ w ∈ ws1, w ∈ vs := fun w hw => by rw [q3]; exact List.mem_append_left _ hw
      have fin : EsOK A.len (laid A.es l1.flatten) → (∀ w ∈ ws1, w.1 < A.len) → vs.length ≤ 100 → (∀ bs, ∃ a n us g, RD pk ((A.runs [first, [(0, hd)], ws]).1.wake bs) a n us g ∧ ((∀ k, 145 ≤ k → g k = find A.es k) ∨ (∀ k, 145 ≤ k → g k = find (laid A.es ws) k))) → Cut pk A ws (A.runs [first, [(0, hd)], ws]) := fun hke hlt hv hn => by
        have hke' : EsOK (A.runs [first, [(0, hd)], ws]).1.len (A.runs [first, [(0, hd)], ws]).1.es := by rw [q4.hist.es, hBl]; exact hke.laid hlt
        have := hke'.length
        exact ⟨q4.off, q1, q4.fuse, hfz, hBl, hBr, by omega, by omega, hn⟩
      cases l1 with
      | nil =>
        simp only [List.nil_append, List.cons.injEq] at q2
        obtain ⟨rfl, _⟩ := q2
        have hlt : ∀ w ∈ ws1, w.1 < A.len := fun w hw => by have := (hout w (hsub w hw)).1; omega
        refine fin h2 hlt (by omega) fun bs => ⟨a, n, us, _, ?_, Or.inl fun _ _ => rfl⟩
        have ht := wake_torn q4 (by rw [hBl]; exact h2) (prefix_nodup q3 hond) (fun w hw => by rw [hBl]; exact hlt w hw) bs
        have hat : ∀ k, (k < 1 + (1 - a) * 72 ∨ 1 + (1 - a) * 72 + 72 ≤ k) → find ((A.runs [first, [(0, hd)], ws]).1.wakeEs bs) k = find A.es k := fun k hk => by
          rcases ht.at_ k with e | ⟨w, hw, e, _⟩
          · exact e
          · exact absurd (List.mem_map.2 ⟨w, hsub w hw, e⟩) (hnf k hk)
        exact RD.old hJ rfl rfl hBl ht.keys (hat 0 (by omega)) (fun i hi => hat _ (a01 i hi)) fun k hk => hat k (by omega)
      | cons x l1 =>
      cases l1 with
      | nil =>
        simp only [List.cons_append, List.nil_append, List.cons.injEq] at q2
        obtain ⟨rfl, rfl, _⟩ := q2
        have hes0 : laid A.es [first].flatten = laid A.es first := by simp
        have hlt : ∀ w ∈ ws1, w.1 < A.len := fun w hw => by rw [List.mem_singleton.1 (hsub w hw)]; show 0 < A.len; omega
        refine fin (by rw [hes0]; exact hk1) hlt (by simp) fun bs => ?_
        have ht := wake_torn q4 (by rw [hBl, hes0]; exact hk1) (prefix_nodup q3 (by simp)) (fun w hw => by rw [hBl]; exact hlt w hw) bs
        rw [hes0] at ht
        have hat : ∀ k, k ≠ 0 → find ((A.runs [first, [(0, hd)], ws]).1.wakeEs bs) k = find (laid A.es first) k := fun k hk => by
          rcases ht.at_ k with e | ⟨w, hw, e, _⟩
          · exact e
          · rw [List.mem_singleton.1 (hsub w hw)] at e; exact absurd e.symm hk
        rcases ht.at_ 0 with e | ⟨w, hw, _, e⟩
        · refine ⟨a, n, us, _, ?_, Or.inl fun _ _ => rfl⟩
          exact RD.old hJ rfl rfl hBl ht.keys (e.trans (find_laid_not (hnf 0 (by omega)))) (fun i hi => (hat _ (by omega)).trans (find_laid_not (hnf _ (a01 i hi)))) fun k hk => (hat _ (by omega)).trans (find_laid_not (hnf _ (by omega)))
        · refine ⟨1 - a, (pk (recT ws)).length, ws, _, ?_, Or.inr fun _ _ => rfl⟩
          rw [List.mem_singleton.1 (hsub w hw)] at e
          refine RD.new hJ hm hrec hwn rfl hpkn hm0 rfl rfl hBl ht.keys (e.trans (by rw [hdq])) (fun i hi => (hat _ (by omega)).trans (hf1 i hi)) (fun k hk _ => (hat _ (by omega)).trans (find_laid_not (hnf _ (by omega)))) ?_
          have : ((A.runs [first, [(0, hd)], ws]).1.wake bs).room = A.room := q4.room
          rw [this]
          exact ((hrm.laid (us := first) fun w hw => List.mem_append_left _ hw).torn ht (fun w hw => by rw [List.mem_singleton.1 (hsub w hw)]; simp)).sub fun w hw => by simp [hw]
      | cons y l1 =>
      cases l1 with
      | nil =>
        simp only [List.cons_append, List.nil_append, List.cons.injEq] at q2
        obtain ⟨rfl, rfl, rfl, _⟩ := q2
        have hes0 : laid A.es [first, [(0, hd)]].flatten = laid A.es (first ++ [(0, hd)]) := by simp
        have hlt : ∀ w ∈ ws1, w.1 < A.len := fun w hw => (hgood w (hsub w hw)).1.2.1
        refine fin (by rw [hes0]; exact hk2) hlt (by omega) fun bs => ?_
        have ht := wake_torn q4 (by rw [hBl, hes0]; exact hk2) (prefix_nodup q3 hnd) (fun w hw => by rw [hBl]; exact hlt w hw) bs
        rw [hes0] at ht
        have hat : ∀ k, k ∉ ws.map (·.1) → find ((A.runs [first, [(0, hd)], ws]).1.wakeEs bs) k = if k = 0 then some hd else find (laid A.es first) k := fun k hk => by
          rcases ht.at_ k with e | ⟨w, hw, e, _⟩
          · rw [e, hf2]
          · exact absurd (List.mem_map.2 ⟨w, hsub w hw, e⟩) hk
        refine ⟨1 - a, (pk (recT ws)).length, ws, _, ?_, Or.inr fun _ _ => rfl⟩
        refine RD.new hJ hm hrec hwn rfl hpkn hm0 rfl rfl hBl ht.keys ((hat 0 (hnw 0 (by omega))).trans (by rw [if_pos rfl, hdq])) (fun i hi => by rw [show find ((A.runs [first, [(0, hd)], ws]).1.wake bs).es _ = _ from hat _ (hnw _ (by omega)), if_neg (by omega), hf1 i hi]) (fun k hk hno => by rw [show find ((A.runs [first, [(0, hd)], ws]).1.wake bs).es _ = _ from hat _ hno, if_neg (by omega), find_laid_not (hnf _ (by omega))]) ?_
        have : ((A.runs [first, [(0, hd)], ws]).1.wake bs).room = A.room := q4.room
        rw [this]
        exact ((hrm.laid (us := first ++ [(0, hd)]) fun w hw => by rcases List.mem_append.1 hw with h | h; exact List.mem_append_left _ h; exact List.mem_append_right _ (by rw [List.mem_singleton.1 h]; simp)).torn ht (fun w hw => by simp [hsub w hw])).sub fun w hw => by simp [hw]
      | cons z l1 => simp at q2
  · rw [if_neg hfit, if_neg (show ¬ ({ A with fuse := 0 } : AD).fits (0 :: (outs (1 - a) (pk (recT ws)) ++ ws).map (·.1)) = true from hfit)]; exact Or.inl (same 7)
end Go.Ev
end
section
namespace Go.Ev
theorem kept_eq {A B : AD} (hl : A.len = B.len) (h : ∀ k, 145 ≤ k → find A.es k = find B.es k) : A.kept = B.kept := by
  unfold AD.kept
  rw [hl]
  refine List.map_congr_left fun j _ => ?_
  rw [AD.read, AD.read, h _ (by omega)]
theorem kept_len {A : AD} (hl : A.len = 200) : A.kept.length = 55 := by
  unfold AD.kept
  rw [hl]; simp
def CapOK (v : V) : Prop := v = .nils ∨ ∃ b o n c s, v = .slice b o n c s ∧ ((c = 0 ∧ s = 1) ∨ (c ≠ 0 ∧ n ≤ c - 1))
section
variable {cp : RC → CodeE} {t : Nat → Option FnE} {fuel : Nat} {H : Heap} {pk : List UInt8 → List (List UInt8)} {unpk : List (List UInt8) → Option (List UInt8)}
theorem on_call' (Q : TJ t pk unpk) {G : Heap} {p : Nat} {A : AD} {O : Nat → Prop} (hD : Disk G p A O) {b : Bool} (hb : (!A.off) = b) {d : Nat} {k : K} : callP (evP cp t fuel (d + 2)) (.func 38 []) [.ptr p 0] G k = k (.bool b) G := by
  rw [on_all (Q.T.disk4 Q.hc) hD, hb]
end
end Go.Ev
end
