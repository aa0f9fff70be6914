/- LC: a part of the evaluator, of its logic, or of the laws' walk in it. -/
import Derived.Test.YtmegpbadkojhbaaDoorLB
import Derived.Test.YtmegpbadkojhbaaDoorLg
import Derived.Deep.Slices
import Derived.ChangeArms
import Derived.ChangeSame
set_option linter.unusedVariables false
set_option linter.unusedSimpArgs false
set_option linter.unusedSectionVars false
section
namespace Go.Ev
def isRow (bl : Blk) (row : List V) : Prop := bl = .cells row ∨ bl = .view row
theorem rd_row {bl : Blk} {row : List V} {o : Nat} {v : V} (h : isRow bl row) (hr : row[o]? = some v) (h1 : v.one = true) {id : Nat} {k : V → R} : rdB id bl o k = k v := by
  rcases h with rfl | rfl
  · show nth id row o k = _
    exact nth_get hr
  · show nth id row o (fun v => isOne id v (k v)) = _
    rw [nth_get hr]
    cases v <;> first | rfl | cases h1
def NoneV (v : V) : Prop := v = .nils ∨ ∃ b o c s, v = .slice b o 0 c s
theorem Fresh.own {H H1 H2 : Heap} {O1 O2 : Nat → Prop} (f : Fresh H H1) (s : Step H1 O1 H2 O2) (h : ∀ b, O1 b → H.n ≤ b) : Fresh H H2 ∧ ∀ b, O2 b → H.n ≤ b := by
  have hn : ∀ b, b < H.n → ¬ O1 b := fun b hb ho => by have := h b ho; omega
  refine ⟨⟨s.wf, Nat.le_trans f.n s.n, fun b hb => ((s.same b (Nat.lt_of_lt_of_le hb f.n) (hn b hb)).1).trans (f.same b hb), fun lo h1 h2 => (s.lo lo (f.lo lo h1 h2) (Nat.le_trans h2 f.n) fun b hb => Nat.le_trans h2 (h b hb)).1⟩, fun b hb => ?_⟩
  rcases Nat.lt_or_ge b H.n with h1 | h1
  · exact absurd hb (s.same b (Nat.lt_of_lt_of_le h1 f.n) (hn b h1)).2
  · exact h1
end Go.Ev
end
section
namespace Go.Ev
abbrev Pt := Nat × Nat × Bool
def fullB (c n : Nat) : List UInt8 := List.replicate n (UInt8.ofNat c)
theorem fullB_length {c n : Nat} : (fullB c n).length = n := List.length_replicate
def wr1 (x : Pt) : Wr := (x.1, tx (fullB x.2.1 (if x.2.2 = true then 31 else 32)))
def wrsOf (ps : List Pt) : List Wr := (ps.take 70).map wr1
structure PsRow (row : List V) (o : Nat) (ps : List Pt) : Prop where
  at_ : ∀ i x, ps[i]? = some x → row[o + i * 3]? = some (.int 3 x.1)
  letter : ∀ i x, ps[i]? = some x → row[o + i * 3 + 1]? = some (.int 4 x.2.1)
  short : ∀ i x, ps[i]? = some x → row[o + i * 3 + 2]? = some (.bool x.2.2)
  small : ∀ x ∈ ps, x.1 < 18446744073709551616 ∧ x.2.1 < 256
def PsAt (H : Heap) (v : V) (ps : List Pt) : Prop := (NoneV v ∧ ps = []) ∨ ∃ b o c s row, v = .slice b o ps.length c s ∧ isRow (H.get b) row ∧ b < H.n ∧ PsRow row o ps
theorem PsAt.fresh {H H' : Heap} {v : V} {ps : List Pt} (h : PsAt H v ps) (f : Fresh H H') : PsAt H' v ps := by
  rcases h with h | ⟨b, o, c, s, row, h1, h2, h3, h4⟩
  · exact Or.inl h
  · exact Or.inr ⟨b, o, c, s, row, h1, by rw [f.same b h3]; exact h2, Nat.lt_of_lt_of_le h3 f.n, h4⟩
theorem fullB_succ {c n : Nat} : fullB c (n + 1) = fullB c n ++ [UInt8.ofNat c] := List.replicate_succ'
theorem putB_full {c i : Nat} (h : c < 256) : putB (enc (fullB c i)) i 1 c = enc (fullB c (i + 1)) := by
  have h1 := enc_lt (fullB c i)
  rw [fullB_length] at h1
  have h2 : enc (fullB c i) >>> (8 * (i + 1)) = 0 := by
    rw [enc_drop, List.drop_eq_nil_of_le (by rw [fullB_length]; omega)]
    rfl
  rw [fullB_succ, enc_append, fullB_length]
  unfold putB
  rw [h2, Nat.mod_eq_of_lt h1]
  simp only [enc]
  have h3 : (UInt8.ofNat c).toNat = c := by simp; omega
  rw [h3]
section
variable {cp : RC → CodeE} {t : Nat → Option FnE} {fuel : Nat} {H : Heap}
theorem letter_loop {bl o n c s i y : Nat} {row : List V} {b : Nat} (hin : i < n) (hnb : n < 9223372036854775808) (hrow : row[o + i * 3 + 1]? = some (.int 4 y)) (hy : y < 256) (hb : H.n ≤ b) {cl : V} (hcl : cl = .slice bl o n c s) :
    ∀ (m j : Nat) (G : Heap), j + m = 32 → Fresh H G → isRow (G.get bl) row → bl ≠ b → G.get b = .bytes 32 (enc (fullB y j)) → b < G.n →
    ∃ G', Fresh H G' ∧ G'.get b = .bytes 32 (enc (fullB y 32)) ∧ G'.n = G.n ∧ (∀ q, q ≠ b → G'.get q = G.get q) ∧ ∀ (ph : Phi) (kx : Nat → KE) (rr : Nat) (e : Env), m < rr → pget ⟨.i0, .i0, .i0⟩ e = cl → pget ⟨.i0, .i0, .i4⟩ e = .int 3 i → pget ⟨.i0, .i0, .i5⟩ e = .slice b 0 32 33 0 → pget ⟨.i0, .i0, .i6⟩ e = .int 3 j →
      ∀ (vo : V), pget ⟨.i0, .i0, .i3⟩ e = vo → ∀ x : R, (∀ e', pget ⟨.i0, .i0, .i0⟩ e' = cl → pget ⟨.i0, .i0, .i3⟩ e' = vo → pget ⟨.i0, .i0, .i4⟩ e' = .int 3 i → pget ⟨.i0, .i0, .i5⟩ e' = .slice b 0 32 33 0 → kx 3 e' G' = x) →
      evL c9l0 fuel ph kx rr e G = x := by
  subst hcl
  intro m
  induction m with
  | zero =>
    intro j G hj f hbl hne hgb hbn
    have hj' : j = 32 := by omega
    subst hj'
    refine ⟨G, f, hgb, rfl, fun _ _ => rfl, fun ph kx rr e hrr h0 h4 h5 h6 vo h3 x hT => ?_⟩
    obtain ⟨rr, rfl⟩ : ∃ q, rr = q + 1 := ⟨rr - 1, by omega⟩
    rw [evL_succ]
    have e1 : nn 32 := by unfold nn; omega
    have e2 : ¬ 32 < 32 := by omega
    simp only [go_sem, reduceCtorEq, Nat.reduceAdd, Nat.reduceSub, Nat.reduceMul, Nat.reduceEqDiff, Nat.reduceLT, Nat.reduceDiv, Nat.reduceMod, Nat.reduceLeDiff, ↓reduceIte, c9l0, h0, h3, h4, h5, h6, e1, e2]
    exact hT _ (by simp only [go_sem, reduceCtorEq, ↓reduceIte, h0]) (by simp only [go_sem, reduceCtorEq, ↓reduceIte, h3]) (by simp only [go_sem, reduceCtorEq, ↓reduceIte, h4]) (by simp only [go_sem, reduceCtorEq, ↓reduceIte, h5])
  | succ m ih =>
    intro j G hj f hbl hne hgb hbn
    have hlt : j < 32 := by omega
    have hw := f.wf
    have hx := putB_full (c := y) (i := j) hy
    obtain ⟨G', f', q1, q2, q3, hG'⟩ := ih (j + 1) (G.put b (.bytes 32 (enc (fullB y (j + 1))))) (by omega) (f.put hb hbn) (by rw [Heap.get_put hw hbn, if_neg hne]; exact hbl) hne (by rw [Heap.get_put hw hbn, if_pos rfl]) (by rw [Heap.n_put]; exact hbn)
    refine ⟨G', f', q1, by rw [q2, Heap.n_put], fun q hq => by rw [q3 q hq, Heap.get_put hw hbn, if_neg hq], fun ph kx rr e hrr h0 h4 h5 h6 vo h3 x hT => ?_⟩
    obtain ⟨rr, rfl⟩ : ∃ q, rr = q + 1 := ⟨rr - 1, by omega⟩
    have e1 : nn 32 := by unfold nn; omega
    have e2 : nn j := by unfold nn; omega
    have e3 : (j + 1) % 18446744073709551616 = j + 1 := by omega
    have e4 : nn i := by unfold nn; omega
    have e5 : j + 1 ≤ 32 := by omega
    have e6 : i < 9223372036854775808 := by omega
    have e7 : j < 9223372036854775808 := by omega
    have hrd : ∀ {id : Nat} {k : V → R}, rdB id (G.get bl) (o + i * 3 + 1) k = k (.int 4 y) := rd_row hbl hrow rfl
    rw [evL_succ]
    simp only [go_sem, reduceCtorEq, Nat.reduceAdd, Nat.reduceSub, Nat.reduceMul, Nat.reduceEqDiff, Nat.reduceLT, Nat.reduceDiv, Nat.reduceMod, Nat.reduceLeDiff, ↓reduceIte, c9l0, h0, h3, h4, h5, h6, hlt, hin, e1, e2, e3, e4, e5, e6, e7, hrd, hgb, hx, hw, hbn]
    refine hG' ph kx rr _ (by omega) ?_ ?_ ?_ ?_ vo ?_ x hT <;> simp only [go_sem, reduceCtorEq, ↓reduceIte, h0, h3, h4, h5, h6]
end
end Go.Ev
end
section
namespace Go.Ev
theorem wr1_ok (x : Pt) : okT (wr1 x).2 := by
  unfold okT wr1
  simp only [tx]
  exact enc_lt _
theorem wr1_len (x : Pt) : (wr1 x).2.1 ≤ 32 := by
  simp only [wr1, tx, fullB_length]
  split <;> omega
theorem take_step {α β : Type} {l : List α} {i : Nat} {x : α} (f : α → β) (h : l[i]? = some x) : (l.take (i + 1)).map f = (l.take i).map f ++ [f x] := by
  rw [List.take_add_one, h]
  simp
theorem Grows.step {H G : Heap} {v : V} {ws : List Wr} (f : Fresh H G) (h : Grows H G v ws) (w : Wr) {n : Nat} (hn : n = G.n) (hl : ws.length < 1000000) :
    ∃ G' v', Fresh H G' ∧ Grows H G' v' (ws ++ [w]) ∧ (∀ b, b < G.n → (∀ o l c s, v ≠ .slice b o l c s) → G'.get b = G.get b) ∧ G.n ≤ G'.n ∧ ∀ (id : Nat) (K : K), vSliceN id v (fun b o len cp sz => appC id 2 1 [.int 3 w.1, .str w.2.1 w.2.2] b o len cp sz (G.new (.cells [.int 3 w.1, .str w.2.1 w.2.2])) K) (K (.slice (G.n + 1) 0 1 0 2) ((G.new (.cells [.int 3 w.1, .str w.2.1 w.2.2])).new (.cells [.int 3 w.1, .str w.2.1 w.2.2]))) = K v' G' := by
  subst hn
  have gw := f.wf
  rcases h with ⟨rfl, rfl⟩ | ⟨bo, rfl, ho, hbo2, hbo3, hbo4⟩
  · refine ⟨(G.new (.cells [.int 3 w.1, .str w.2.1 w.2.2])).new (.cells [.int 3 w.1, .str w.2.1 w.2.2]), .slice (G.n + 1) 0 1 0 2, (f.trans (Fresh.new gw)).trans (Fresh.new (by rw [Heap.wf_new]; exact gw)), ?_, ?_, by simp only [Heap.n_new]; omega, fun id K => ?_⟩
    · refine Or.inr ⟨G.n + 1, rfl, by simp, ?_, by have := f.n; omega, by simp only [Heap.n_new]; omega⟩
      rw [Heap.get_new (by rw [Heap.wf_new]; exact gw), if_pos (by rw [Heap.n_new])]
      rfl
    · intro b hb _
      rw [Heap.get_new (by rw [Heap.wf_new]; exact gw), if_neg (by rw [Heap.n_new]; omega), Heap.get_new gw, if_neg (by omega)]
    · simp only [go_sem, reduceCtorEq, Nat.reduceAdd, Nat.reduceSub, Nat.reduceMul, Nat.reduceEqDiff, Nat.reduceLT, Nat.reduceDiv, Nat.reduceMod, Nat.reduceLeDiff, ↓reduceIte, gw]
  · have e4 : ¬ bo = G.n := by omega
    have e5 : bo < G.n + 1 := by omega
    have e6 : ws.length + 1 ≤ 1073741824 := by omega
    have e7 : (encW ws).length = ws.length * 2 := encW_length ws
    have w1 : ((G.new (.cells [.int 3 w.1, .str w.2.1 w.2.2])).put bo .dead).wf := by simp only [Heap.wf_put, Heap.wf_new, gw]
    have n1 : ((G.new (.cells [.int 3 w.1, .str w.2.1 w.2.2])).put bo .dead).n = G.n + 1 := by simp only [Heap.n_new, Heap.n_put]
    refine ⟨((G.new (.cells [.int 3 w.1, .str w.2.1 w.2.2])).put bo .dead).new (.cells (encW ws ++ [.int 3 w.1, .str w.2.1 w.2.2])), .slice (G.n + 1) 0 (ws.length + 1) 0 2, (Fresh.put (f.trans (Fresh.new gw)) hbo3 (by rw [Heap.n_new]; omega)).trans (Fresh.new w1), ?_, ?_, by rw [Heap.n_new, n1]; omega, fun id K => ?_⟩
    · refine Or.inr ⟨G.n + 1, by simp, by simp, ?_, by have := f.n; omega, by rw [Heap.n_new, n1]; omega⟩
      rw [Heap.get_new w1, if_pos n1.symm, encW_append]
      rfl
    · intro b hb hne
      have hbb : b ≠ bo := fun h => hne 0 ws.length 0 2 (by rw [h])
      rw [Heap.get_new w1, if_neg (by rw [n1]; omega), Heap.get_put (by rw [Heap.wf_new]; exact gw) (by rw [Heap.n_new]; omega), if_neg hbb, Heap.get_new gw, if_neg (by omega)]
    · simp only [go_sem, reduceCtorEq, Nat.reduceAdd, Nat.reduceSub, Nat.reduceMul, Nat.reduceEqDiff, Nat.reduceLT, Nat.reduceDiv, Nat.reduceMod, Nat.reduceLeDiff, ↓reduceIte, gw, hbo2, e4, e5, e6, e7]
section
variable {cp : RC → CodeE} {t : Nat → Option FnE} {fuel : Nat} {H : Heap}
set_option maxRecDepth 4000 in
set_option maxHeartbeats 1000000 in
theorem writes_loop {bl o n c s : Nat} {row : List V} {ps : List Pt} (hrow : PsRow row o ps) (hn : n = ps.length) (hnb : n < 9223372036854775808) (hbl : isRow (H.get bl) row) (hbln : bl < H.n) (hfu : 100 < fuel) {cl : V} (hcl : cl = .slice bl o n c s) :
    ∀ (m i : Nat) (G : Heap) (vo : V), i + m = min n 70 → Fresh H G → Grows H G vo ((ps.take i).map wr1) →
    ∃ G' vo', Fresh H G' ∧ Grows H G' vo' (wrsOf ps) ∧ ∀ (ph : Phi) (kx : Nat → KE) (rr : Nat) (e : Env), m < rr → pget ⟨.i0, .i0, .i0⟩ e = cl → pget ⟨.i0, .i0, .i3⟩ e = vo → pget ⟨.i0, .i0, .i4⟩ e = .int 3 i →
      ∀ x : R, (∀ e', pget ⟨.i0, .i0, .i3⟩ e' = vo' → kx 1 e' G' = x) →
      evL c9l1 fuel ph kx rr e G = x := by
  intro m
  induction m with
  | zero =>
    intro i G vo hi f hg
    have hi2 : (ps.take i).map wr1 = wrsOf ps := by
      unfold wrsOf
      congr 1
      rcases Nat.le_total n 70 with h | h
      · have : i = n := by omega
        rw [List.take_of_length_le (by omega), List.take_of_length_le (by omega)]
      · have : i = 70 := by omega
        rw [this]
    rw [hi2] at hg
    refine ⟨G, vo, f, hg, fun ph kx rr e hrr h0 h3 h4 x hT => ?_⟩
    obtain ⟨rr, rfl⟩ : ∃ q, rr = q + 1 := ⟨rr - 1, by omega⟩
    have n1 : nn i := by unfold nn; omega
    have n2 : nn n := by unfold nn; omega
    have n3 : nn 70 := by unfold nn; omega
    subst hcl
    rw [evL_succ]
    by_cases hin : i < n
    · have e1 : ¬ i < 70 := by omega
      simp only [go_sem, reduceCtorEq, Nat.reduceAdd, Nat.reduceSub, Nat.reduceMul, Nat.reduceEqDiff, Nat.reduceLT, Nat.reduceDiv, Nat.reduceMod, Nat.reduceLeDiff, ↓reduceIte, c9l1, h0, h3, h4, n1, n2, n3, hin, e1, hnb]
      exact hT _ (by simp only [go_sem, reduceCtorEq, ↓reduceIte, h3])
    · simp only [go_sem, reduceCtorEq, Nat.reduceAdd, Nat.reduceSub, Nat.reduceMul, Nat.reduceEqDiff, Nat.reduceLT, Nat.reduceDiv, Nat.reduceMod, Nat.reduceLeDiff, ↓reduceIte, c9l1, h0, h3, h4, n1, n2, n3, hin, hnb]
      exact hT _ (by simp only [go_sem, reduceCtorEq, ↓reduceIte, h3])
  | succ m ih =>
    intro i G vo hi f hg
    have hin : i < n := by omega
    have hi70 : i < 70 := by omega
    have hw := f.wf
    obtain ⟨p, hp⟩ : ∃ p, ps[i]? = some p := ⟨ps[i]'(by omega), by simp [show i < ps.length by omega]⟩
    have r1 := hrow.at_ i p hp
    have r2 := hrow.letter i p hp
    have r3 := hrow.short i p hp
    obtain ⟨s1, s2⟩ := hrow.small p (List.mem_of_getElem? hp)
    have hlen : ((ps.take i).map wr1).length < 1000000 := by rw [List.length_map, List.length_take]; omega
    have fG1 : Fresh H (G.new (.bytes 32 0)) := f.trans (Fresh.new hw)
    have hne : bl ≠ G.n := by have := f.n; omega
    have g1l : isRow ((G.new (.bytes 32 0)).get bl) row := by rw [Heap.get_new hw, if_neg hne, f.same bl hbln]; exact hbl
    obtain ⟨G2, f2, q1, q2, q3, hL⟩ := letter_loop (fuel := fuel) (H := H) (c := c) (s := s) (y := p.2.1) hin hnb r2 s2 f.n hcl 32 0 (G.new (.bytes 32 0)) rfl fG1 g1l hne (by rw [Heap.get_new hw, if_pos rfl]; rfl) (by rw [Heap.n_new]; omega)
    rw [Heap.n_new] at q2
    have hg2 : Grows H G2 vo ((ps.take i).map wr1) := by
      rcases hg with h | ⟨bo, a1, a2, a3, a4, a5⟩
      · exact Or.inl h
      · refine Or.inr ⟨bo, a1, a2, ?_, a4, by omega⟩
        rw [q3 bo (by omega), Heap.get_new hw, if_neg (by omega)]
        exact a3
    obtain ⟨G', vo', f', hg', h1', h2', hst⟩ := Grows.step f2 hg2 (wr1 p) rfl hlen
    rw [← take_step wr1 hp] at hg'
    obtain ⟨Gz, vz, fz, hgz, hLz⟩ := ih (i + 1) G' vo' (by omega) f' hg'
    refine ⟨Gz, vz, fz, hgz, fun ph kx rr e hrr h0 h3 h4 x hT => ?_⟩
    obtain ⟨rr, rfl⟩ : ∃ q, rr = q + 1 := ⟨rr - 1, by omega⟩
    have n1 : nn i := by unfold nn; omega
    have n2 : nn n := by unfold nn; omega
    have n3 : nn 70 := by unfold nn; omega
    have e3 : (i + 1) % 18446744073709551616 = i + 1 := by omega
    have e6 : i < 9223372036854775808 := by omega
    have g2l : isRow (G2.get bl) row := by rw [q3 bl hne]; exact g1l
    have hn0 : ∀ {id : Nat} {k : V → R}, rdB id (G2.get bl) (o + i * 3) k = k (.int 3 p.1) := rd_row g2l r1 rfl
    have hn2 : ∀ {id : Nat} {k : V → R}, rdB id (G2.get bl) (o + i * 3 + 2) k = k (.bool p.2.2) := rd_row g2l r3 rfl
    have b32 : (32 : Nat) ≤ 16777216 := by omega
    have w2 := f2.wf
    have hx32 : enc (fullB p.2.1 32) % 256 ^ 32 = enc (fullB p.2.1 32) := by
      have := enc_lt (fullB p.2.1 32)
      rw [fullB_length] at this
      exact Nat.mod_eq_of_lt this
    have hx31 : enc (fullB p.2.1 32) >>> 8 % 256 ^ 31 = enc (fullB p.2.1 31) := by
      have h := enc_drop (fullB p.2.1 32) 1
      have h2 := enc_lt (fullB p.2.1 31)
      rw [fullB_length] at h2
      rw [show 8 * 1 = 8 from rfl] at h
      rw [h, show (fullB p.2.1 32).drop 1 = fullB p.2.1 31 by simp [fullB]]
      exact Nat.mod_eq_of_lt h2
    subst hcl
    rw [evL_succ]
    simp only [go_sem, reduceCtorEq, Nat.reduceAdd, Nat.reduceSub, Nat.reduceMul, Nat.reduceEqDiff, Nat.reduceLT, Nat.reduceDiv, Nat.reduceMod, Nat.reduceLeDiff, ↓reduceIte, c9l1, h0, h3, h4, n1, n2, n3, hin, hi70, b32, hw, Nat.le_refl, hnb]
    refine hL _ _ fuel _ (by omega) ?_ ?_ ?_ ?_ vo ?_ _ (fun e' p0 p3 p4 p5 => ?_)
    · simp only [go_sem, reduceCtorEq, ↓reduceIte, h0]
    · simp only [go_sem, reduceCtorEq, ↓reduceIte, h4]
    · simp only [go_sem, reduceCtorEq, ↓reduceIte]
    · simp only [go_sem, reduceCtorEq, ↓reduceIte]
    · simp only [go_sem, reduceCtorEq, ↓reduceIte, h3]
    · rcases p with ⟨pa, pl, sh⟩
      cases sh with
      | false =>
        simp only [wr1, tx, fullB_length, Bool.false_eq_true, if_false] at hst
        simp only [go_sem, reduceCtorEq, Nat.reduceAdd, Nat.reduceSub, Nat.reduceMul, Nat.reduceEqDiff, Nat.reduceLT, Nat.reduceDiv, Nat.reduceMod, Nat.reduceLeDiff, ↓reduceIte, c9l1, p0, p3, p4, p5, hin, e6, hn0, hn2, q1, hx32, w2, Nat.mul_zero, Nat.shiftRight_zero, hst, n1, e3]
        refine hLz ph kx rr _ (by omega) ?_ ?_ ?_ x hT <;> simp only [go_sem, reduceCtorEq, Nat.reduceAdd, Nat.reduceSub, Nat.reduceMul, Nat.reduceEqDiff, Nat.reduceLT, Nat.reduceDiv, Nat.reduceMod, Nat.reduceLeDiff, ↓reduceIte, p0, p4]
      | true =>
        simp only [wr1, tx, fullB_length, if_true] at hst
        simp only [go_sem, reduceCtorEq, Nat.reduceAdd, Nat.reduceSub, Nat.reduceMul, Nat.reduceEqDiff, Nat.reduceLT, Nat.reduceDiv, Nat.reduceMod, Nat.reduceLeDiff, ↓reduceIte, c9l1, p0, p3, p4, p5, hin, e6, hn0, hn2, q1, hx31, w2, Nat.mul_one, hst, n1, e3]
        refine hLz ph kx rr _ (by omega) ?_ ?_ ?_ x hT <;> simp only [go_sem, reduceCtorEq, Nat.reduceAdd, Nat.reduceSub, Nat.reduceMul, Nat.reduceEqDiff, Nat.reduceLT, Nat.reduceDiv, Nat.reduceMod, Nat.reduceLeDiff, ↓reduceIte, p0, p4]
end
end Go.Ev
end
section
namespace Go.Ev
theorem find_laid_not : ∀ {ws : List Wr} {es : List (Nat × Tx)} {k : Nat}, k ∉ ws.map (·.1) → find (laid es ws) k = find es k
  | [], es, k, _ => rfl
  | w :: ws, es, k, h => by
    simp only [List.map_cons, List.mem_cons, not_or] at h
    show find (laid (updS es w.1 w.2) ws) k = _
    rw [find_laid_not h.2, find_updS, if_neg h.1]
theorem find_laid_mem : ∀ {ws : List Wr} {es : List (Nat × Tx)} {w : Wr}, (ws.map (·.1)).Nodup → w ∈ ws → find (laid es ws) w.1 = some w.2
  | [], es, w, _, h => by cases h
  | v :: ws, es, w, hn, h => by
    simp only [List.map_cons, List.nodup_cons] at hn
    show find (laid (updS es v.1 v.2) ws) w.1 = _
    rcases List.mem_cons.1 h with rfl | h
    · rw [find_laid_not hn.1, find_updS, if_pos rfl]
    · exact find_laid_mem hn.2 h
theorem find_laid_some : ∀ {ws : List Wr} {es : List (Nat × Tx)} {k : Nat}, (find es k).isSome = true → (find (laid es ws) k).isSome = true
  | [], es, k, h => h
  | v :: ws, es, k, h => by
    show (find (laid (updS es v.1 v.2) ws) k).isSome = true
    refine find_laid_some ?_
    rw [find_updS]
    split
    · rfl
    · exact h
theorem find_laid_key : ∀ {ws : List Wr} {es : List (Nat × Tx)} {w : Wr}, w ∈ ws → (find (laid es ws) w.1).isSome = true
  | v :: ws, es, w, h => by
    show (find (laid (updS es v.1 v.2) ws) w.1).isSome = true
    rcases List.mem_cons.1 h with rfl | h
    · exact find_laid_some (by rw [find_updS, if_pos rfl]; rfl)
    · exact find_laid_key h
structure EsOK (len : Nat) (es : List (Nat × Tx)) : Prop where
  nodup : (es.map (·.1)).Nodup
  lt : ∀ e ∈ es, e.1 < len
theorem updS_keys : ∀ (es : List (Nat × Tx)) (a : Nat) (v : Tx), (updS es a v).map (·.1) = if a ∈ es.map (·.1) then es.map (·.1) else es.map (·.1) ++ [a]
  | [], a, v => rfl
  | p :: es, a, v => by
    unfold updS
    by_cases h : p.1 = a
    · rw [if_pos h, if_pos (by simp [h])]
      rfl
    · rw [if_neg h, List.map_cons, updS_keys es a v, List.map_cons]
      have : ¬ a = p.1 := fun e => h e.symm
      by_cases h2 : a ∈ es.map (·.1)
      · rw [if_pos h2, if_pos (List.mem_cons_of_mem _ h2)]
      · rw [if_neg h2, if_neg (fun hm => (List.mem_cons.1 hm).elim this h2)]
        rfl
theorem EsOK.updS {len : Nat} {es : List (Nat × Tx)} (h : EsOK len es) {a : Nat} {v : Tx} (ha : a < len) : EsOK len (updS es a v) := by
  have hk := updS_keys es a v
  refine ⟨?_, fun e he => ?_⟩
  · rw [hk]
    split
    · exact h.nodup
    · rename_i hn
      exact List.nodup_append.2 ⟨h.nodup, by simp, fun x hx y hy => by rw [List.mem_singleton.1 hy]; rintro rfl; exact hn hx⟩
  · have : e.1 ∈ (Go.Ev.updS es a v).map (·.1) := List.mem_map.2 ⟨e, he, rfl⟩
    rw [hk] at this
    split at this
    · obtain ⟨q, hq, e⟩ := List.mem_map.1 this
      have := h.lt q hq
      omega
    · rcases List.mem_append.1 this with h1 | h1
      · obtain ⟨q, hq, e⟩ := List.mem_map.1 h1
        have := h.lt q hq
        omega
      · rw [List.mem_singleton.1 h1]; exact ha
theorem EsOK.laid {len : Nat} : ∀ {ws : List Wr} {es : List (Nat × Tx)}, EsOK len es → (∀ w ∈ ws, w.1 < len) → EsOK len (laid es ws)
  | [], es, h, _ => h
  | w :: ws, es, h, hw => EsOK.laid (ws := ws) (h.updS (hw w (List.mem_cons_self ..))) fun v hv => hw v (List.mem_cons_of_mem _ hv)
theorem EsOK.length {len : Nat} {es : List (Nat × Tx)} (h : EsOK len es) : es.length ≤ len := by
  have h1 : (es.map (·.1)) ⊆ List.range len := fun k hk => by
    obtain ⟨e, he, rfl⟩ := List.mem_map.1 hk
    exact List.mem_range.2 (h.lt e he)
  have := List.Nodup.length_le_of_subset h.nodup h1
  simpa using this
theorem EsOK.nil {len : Nat} : EsOK len [] := ⟨List.nodup_nil, fun _ h => by cases h⟩
theorem wrs_calm : ∀ {ws : List Wr} {A : AD}, A.fuse = 0 → (A.wrs ws).2 = 0 ∧ (A.wrs ws).1.fuse = 0
  | [], A, h => ⟨rfl, h⟩
  | w :: ws, A, h => by
    have hf : ¬ A.fuse = 1 := by omega
    have h1 : (A.write w.1 w.2.2).2 = 0 := by simp only [AD.write, if_neg hf]
    simp only [AD.wrs, if_pos h1]
    exact wrs_calm (by simp only [AD.write, if_neg hf]; omega)
theorem puts_calm {ws : List Wr} {A : AD} (h : A.fuse = 0) : (A.puts ws).2 = 0 ∧ (A.puts ws).1.fuse = 0 := by
  obtain ⟨h1, h2⟩ := wrs_calm (ws := ws) h
  have hf : ¬ (A.wrs ws).1.fuse = 1 := by omega
  simp only [AD.puts, if_pos h1, AD.flush, if_neg hf, true_and]
  omega
theorem runs_calm : ∀ {l : List (List Wr)} {A : AD}, A.fuse = 0 → (A.runs l).2 = 0 ∧ (A.runs l).1.fuse = 0
  | [], A, h => ⟨rfl, h⟩
  | ws :: l, A, h => by
    obtain ⟨h1, h2⟩ := puts_calm (ws := ws) h
    simp only [AD.runs, if_pos h1]
    exact runs_calm h2
theorem runs_went : ∀ {l : List (List Wr)} {A : AD}, (∀ ws ∈ l, ∀ w ∈ ws, w.2.1 = 32) → (A.runs l).2 = 0 → Went A (A.runs l).1 (laid A.es l.flatten) ∧ (l ≠ [] → (A.runs l).1.us = [])
  | [], A, _, _ => ⟨⟨rfl, rfl, rfl, rfl⟩, fun h => absurd rfl h⟩
  | ws :: l, A, hl, h0 => by
    simp only [AD.runs] at h0 ⊢
    by_cases h1 : (A.puts ws).2 = 0
    · rw [if_pos h1] at h0 ⊢
      obtain ⟨⟨g1, g2, g3, g4⟩, g5⟩ := puts_went (hl ws (List.mem_cons_self ..)) h1
      obtain ⟨⟨k1, k2, k3, k4⟩, k5⟩ := runs_went (A := (A.puts ws).1) (fun us hus => hl us (List.mem_cons_of_mem _ hus)) h0
      refine ⟨⟨k1.trans g1, k2.trans g2, k3.trans g3, ?_⟩, fun _ => ?_⟩
      · rw [k4, g4, List.flatten_cons, laid_append]
      · by_cases hl0 : l = []
        · subst hl0; exact g5
        · exact k5 hl0
    · rw [if_neg h1] at h0; exact absurd h0 h1
theorem outs_good {a : Nat} {ps : List (List UInt8)} (ha : a < 2) (hn : ps.length ≤ 72) (hl : ∀ s ∈ ps, s.length = 32) : ∀ w ∈ outs a ps, (1 ≤ w.1 ∧ w.1 < 145) ∧ w.2.1 = 32 := fun w hw => by
  obtain ⟨i, hi, rfl⟩ := outs_mem hw
  refine ⟨⟨?_, ?_⟩, hl _ (List.getElem_mem hi)⟩
  · show 1 ≤ 1 + a * 72 + i; omega
  · show 1 + a * 72 + i < 145; omega
theorem outs_nodup (a : Nat) (ps : List (List UInt8)) : ((outs a ps).map (·.1)).Nodup := by
  have : (outs a ps).map (·.1) = (List.range ps.length).map (fun i => 1 + a * 72 + i) := by
    refine List.ext_getElem (by simp [outs]) fun i h1 h2 => ?_
    simp [outs]
  rw [this]
  refine List.Pairwise.map _ (fun x y h => ?_) List.nodup_range
  omega
theorem find_laid_congr : ∀ {ws : List Wr} {es es' : List (Nat × Tx)} {k : Nat}, find es k = find es' k → find (laid es ws) k = find (laid es' ws) k
  | [], es, es', k, h => h
  | w :: ws, es, es', k, h => find_laid_congr (ws := ws) (es := updS es w.1 w.2) (es' := updS es' w.1 w.2) (by rw [find_updS, find_updS, h])
theorem laid_same : ∀ {ws : List Wr} {es : List (Nat × Tx)} {k : Nat}, (∀ w ∈ ws, find es w.1 = some w.2) → find (laid es ws) k = find es k
  | [], _, _, _ => rfl
  | w :: ws, es, k, h => by
    have hu : ∀ k, find (updS es w.1 w.2) k = find es k := fun k => by
      rw [find_updS]
      split
      · rename_i e; rw [e, h w (List.mem_cons_self ..)]
      · rfl
    show find (laid (updS es w.1 w.2) ws) k = _
    rw [laid_same fun v hv => by rw [hu]; exact h v (List.mem_cons_of_mem _ hv), hu]
theorem roomy_some {room : Nat} : ∀ {ws : List Wr} {es : List (Nat × Tx)}, (∀ w ∈ ws, (find es w.1).isSome = true) → roomy room es ws
  | [], _, _ => trivial
  | w :: ws, es, h => ⟨Or.inl (h w (List.mem_cons_self ..)), roomy_some fun v hv => by
      rw [find_updS]
      split
      · rfl
      · exact h v (List.mem_cons_of_mem _ hv)⟩
structure JD (pk : List UInt8 → List (List UInt8)) (A : AD) (a n : Nat) (ws : List Wr) : Prop where
  off : A.off = false
  keys : EsOK A.len A.es
  us : A.us = []
  rec_ : CanRecover A pk a n ws
  some_ : n ≠ 0 → ∀ w ∈ ws, find A.es w.1 = some w.2
theorem JD.setRoom {pk : List UInt8 → List (List UInt8)} {A : AD} {a n r : Nat} {ws : List Wr} (J : JD pk A a n ws) : JD pk { A with room := r } a n ws := by
  obtain ⟨h1, h2, h3, ⟨⟨k1, k2, k3, k4, k5, k6, k7⟩, k8⟩, h5⟩ := J
  exact ⟨h1, h2, h3, ⟨⟨k1, k2, k3, k4, k5, k6, k7⟩, fun hn => let ⟨q1, q2, q3, q4, q5, q6⟩ := k8 hn; ⟨q1, q2, q3, q4, q5, roomy_some fun w hw => by show (find A.es w.1).isSome = true; rw [h5 hn w hw]; rfl⟩⟩, h5⟩
theorem hdr_wr (a n : Nat) : (((0, tx (hdr a n)) : Wr)).2.1 = 32 := hdr_length a n
theorem JD.start {pk : List UInt8 → List (List UInt8)} {A : AD} (hl : 145 < A.len) (hl2 : A.len ≤ 1024) (ho : A.off = false) (hk : EsOK A.len A.es) (hf : A.fuse = 0) : JD pk (A.runs [[(0, tx (hdr 0 0))]]).1 0 0 [] ∧ (A.runs [[(0, tx (hdr 0 0))]]).1.fuse = 0 ∧ (A.runs [[(0, tx (hdr 0 0))]]).2 = 0 ∧ Went A (A.runs [[(0, tx (hdr 0 0))]]).1 (updS A.es 0 (tx (hdr 0 0))) := by
  obtain ⟨h1, h2⟩ := runs_calm (l := [[(0, tx (hdr 0 0))]]) hf
  obtain ⟨⟨g1, g2, g3, g4⟩, g5⟩ := runs_went (l := [[(0, tx (hdr 0 0))]]) (A := A) (fun ws hws w hw => by
    rw [List.mem_singleton.1 hws] at hw
    rw [List.mem_singleton.1 hw]
    exact hdr_wr 0 0) h1
  have g5 := g5 (by simp)
  have g4 : _ = updS A.es 0 (tx (hdr 0 0)) := g4
  generalize (A.runs [[(0, tx (hdr 0 0))]]).1 = B at h2 g1 g2 g3 g4 g5 ⊢
  have hkB : EsOK B.len B.es := by rw [g1, g4]; exact hk.updS (by omega)
  have hlen := hkB.length
  refine ⟨⟨g3.trans ho, hkB, g5, ⟨⟨by omega, by omega, by omega, by rw [g5]; simp, ?_, by omega, by omega⟩, fun h => absurd rfl h⟩, fun h => absurd rfl h⟩, h2, h1, ⟨g1, g2, g3, g4⟩⟩
  rw [AD.read, g4, find_updS, if_pos rfl]
  rfl
structure Did (pk : List UInt8 → List (List UInt8)) (A : AD) (ws : List Wr) (B : AD × Nat) : Prop where
  no : B.2 ≠ 0 → B.1 = A
  fuse : B.1.fuse = 0
  len : B.1.len = A.len
  room : B.1.room = A.room
  jd : ∃ a n us, JD pk B.1 a n us
  yes : B.2 = 0 → (∀ k, 145 ≤ k → find B.1.es k = find (laid A.es ws) k) ∧ mayP A.len [] ws = true
theorem JD.same {pk : List UInt8 → List (List UInt8)} {A : AD} {a n e : Nat} {us ws : List Wr} (J : JD pk A a n us) (hf : A.fuse = 0) (he : e ≠ 0 ∨ ws = []) : Did pk A ws (A, e) :=
  ⟨fun _ => rfl, hf, rfl, rfl, ⟨a, n, us, J⟩, fun h => by
    rcases he with h1 | rfl
    · exact absurd h h1
    · exact ⟨fun k _ => rfl, rfl⟩⟩
theorem JD.ran {pk : List UInt8 → List (List UInt8)} {unpk : List (List UInt8) → Option (List UInt8)} (F : FrameOK pk unpk) {A B : AD} {a n : Nat} {us ws : List Wr} (J : JD pk A a n us) (hm : mayP A.len [] ws = true) (h60 : ws.length ≤ 60) (h0 : ws ≠ []) (hws : ∀ w ∈ ws, okT w.2)
    (w : Went A B (laid A.es (outs (1 - a) (pk (recT ws)) ++ (0, tx (hdr (1 - a) (pk (recT ws)).length)) :: ws))) (hu : B.us = []) : JD pk B (1 - a) (pk (recT ws)).length ws ∧ ∀ k, 145 ≤ k → find B.es k = find (laid A.es ws) k := by
  obtain ⟨h1, h2, h3, ⟨⟨k1, k2, k3, k4, k5, k6, k7⟩, k8⟩, h5⟩ := J
  obtain ⟨hgood, hnd⟩ := mayP_good hm
  have hrec : RecOK ws := ⟨h60, fun w hw => by have := (hgood w hw).1.2.1; omega, fun w hw => (hgood w hw).1.2.2, hws⟩
  have htl := hrec.text
  have hpkn := F.num _ htl
  have hpkp := F.pos (recT ws) (by omega)
  have hpkl := F.len (recT ws) (by omega)
  have ha1 : 1 - a < 2 := by omega
  have hout := outs_good (a := 1 - a) ha1 hpkn hpkl
  have hond := outs_nodup (1 - a) (pk (recT ws))
  have hom : ∀ i (h : i < (pk (recT ws)).length), ((1 + (1 - a) * 72 + i, tx (pk (recT ws))[i]) : Wr) ∈ outs (1 - a) (pk (recT ws)) := fun i h => by
    simp only [outs, List.mem_mapIdx]
    exact ⟨i, h, rfl⟩
  generalize hq : outs (1 - a) (pk (recT ws)) = first at w hout hond hom
  generalize hp : pk (recT ws) = ps at w hpkn hpkp hpkl hom
  obtain ⟨g1, g2, g3, g4⟩ := w
  rw [laid_append] at g4
  have g4 : B.es = laid (updS (laid A.es first) 0 (tx (hdr (1 - a) ps.length))) ws := g4
  have hnw : ∀ k, k < 145 → k ∉ ws.map (·.1) := fun k hk hm => by
    obtain ⟨v, hv, e⟩ := List.mem_map.1 hm
    have := (hgood v hv).1.1
    omega
  have hnf : ∀ k, (k = 0 ∨ 145 ≤ k) → k ∉ first.map (·.1) := fun k hk hm => by
    obtain ⟨v, hv, e⟩ := List.mem_map.1 hm
    have := (hout v hv).1
    omega
  have hkB : EsOK B.len B.es := by
    rw [g1, g4]
    exact ((h2.laid (ws := first) fun v hv => by have := (hout v hv).1; omega).updS (by omega)).laid fun v hv => (hgood v hv).1.2.1
  have hsome : ∀ v ∈ ws, find B.es v.1 = some v.2 := fun v hv => by rw [g4]; exact find_laid_mem hnd hv
  have hlB := hkB.length
  refine ⟨⟨g3.trans h1, hkB, hu, ⟨⟨by omega, by omega, by omega, by rw [hu]; simp, ?_, ha1, hpkn⟩, fun _ => ⟨by rw [hp], fun i hi => ?_, hrec, h0, by rw [g1]; exact hm, roomy_some fun v hv => by rw [hsome v hv]; rfl⟩⟩, fun _ => hsome⟩, fun k hk => ?_⟩
  · rw [AD.read, g4, find_laid_not (hnw 0 (by omega)), find_updS, if_pos rfl]
    rfl
  · rw [hp] at hi
    have hm := hom i hi
    have hb := (hout _ hm).1
    have h3 : ∀ k v, (1 ≤ k ∧ k < 145) → ((k, v) : Wr) ∈ first → B.read k = v := fun k v hk hm => by
      rw [AD.read, g4, find_laid_not (hnw k hk.2), find_updS, if_neg (by omega), show find (laid A.es first) k = some v from find_laid_mem hond hm]
      rfl
    rw [h3 _ _ hb hm]
    simp only [hp]
  · rw [g4]
    refine find_laid_congr ?_
    rw [find_updS, if_neg (by omega), find_laid_not (hnf k (Or.inr hk))]
theorem JD.commit {pk : List UInt8 → List (List UInt8)} {unpk : List (List UInt8) → Option (List UInt8)} (F : FrameOK pk unpk) {A : AD} {a n : Nat} {us ws : List Wr} (J : JD pk A a n us) (hf : A.fuse = 0) (hws : ∀ w ∈ ws, okT w.2) : Did pk A ws (A.commit pk a ws) := by
  unfold AD.commit
  rw [if_neg (by rw [J.off]; exact Bool.false_ne_true)]
  by_cases h0 : ws.length = 0
  · rw [if_pos h0]; exact J.same hf (Or.inr (List.eq_nil_of_length_eq_zero h0))
  rw [if_neg h0]
  by_cases h6 : 60 < ws.length
  · rw [if_pos h6]; exact J.same hf (Or.inl (by omega))
  rw [if_neg h6]
  by_cases hm : mayP A.len [] ws = false
  · rw [if_pos hm]; exact J.same hf (Or.inl (by omega))
  rw [if_neg hm]
  have hm : mayP A.len [] ws = true := by simpa using hm
  split
  · obtain ⟨h1, h2⟩ := runs_calm (l := [outs (1 - a) (pk (recT ws)), [(0, tx (hdr (1 - a) (pk (recT ws)).length))], ws]) hf
    have hgood := (mayP_good hm).1
    have hrec : RecOK ws := ⟨by omega, fun w hw => by have := (hgood w hw).1.2.1; have := J.rec_.can.hi; omega, fun w hw => (hgood w hw).1.2.2, hws⟩
    have htl := hrec.text
    obtain ⟨g, g5⟩ := runs_went (l := [outs (1 - a) (pk (recT ws)), [(0, tx (hdr (1 - a) (pk (recT ws)).length))], ws]) (A := A) (fun us hus w hw => by
      simp only [List.mem_cons, List.not_mem_nil, or_false] at hus
      rcases hus with rfl | rfl | rfl
      · exact (outs_good (by omega) (F.num _ htl) (F.len _ (by omega)) w hw).2
      · rw [List.mem_singleton.1 hw]; exact hdr_wr _ _
      · exact (hgood w hw).1.2.2) h1
    obtain ⟨j1, j2⟩ := J.ran F hm (by omega) (fun h => h0 (by rw [h]; rfl)) hws (by simpa using g) (g5 (by simp))
    exact ⟨fun h => absurd h1 h, h2, g.len, g.room, ⟨_, _, _, j1⟩, fun _ => ⟨j2, hm⟩⟩
  · exact J.same hf (Or.inl (by omega))
end Go.Ev
end
section
namespace Go.Ev
theorem wrsOf_ok (ps : List Pt) (hs : ∀ x ∈ ps, x.1 < 18446744073709551616 ∧ x.2.1 < 256) : (wrsOf ps).length ≤ 70 ∧ ∀ w ∈ wrsOf ps, w.1 < 18446744073709551616 ∧ w.2.1 < 1000000 ∧ okT w.2 := by
  refine ⟨by simp only [wrsOf, List.length_map, List.length_take]; omega, fun w hw => ?_⟩
  obtain ⟨x, hx, rfl⟩ := List.mem_map.1 hw
  have := wr1_len x
  exact ⟨(hs x (List.mem_of_mem_take hx)).1, by omega, wr1_ok x⟩
theorem Grows.at_ {H H' : Heap} {v : V} {ws : List Wr} (h : Grows H H' v ws) {O : Nat → Prop} (hO : ∀ b, O b → b < H.n) : WsAt H' v ws O := by
  rcases h with h | ⟨bo, q1, q2, q3, q4, q5⟩
  · exact Or.inl h
  · exact Or.inr ⟨bo, _, _, q1, q3, q5, fun h => by have := hO _ h; omega⟩
def SmallPs (ps : List Pt) : Prop := ∀ x ∈ ps, x.1 < 18446744073709551616 ∧ x.2.1 < 256
theorem PsAt.small {H : Heap} {v : V} {ps : List Pt} (h : PsAt H v ps) : SmallPs ps := by
  rcases h with ⟨_, rfl⟩ | ⟨b, o, c, s, row, h1, h2, h3, h4⟩
  · intro x hx; cases hx
  · exact h4.small
section
variable {cp : RC → CodeE} {t : Nat → Option FnE} {fuel : Nat} {H : Heap} {pk : List UInt8 → List (List UInt8)} {unpk : List (List UInt8) → Option (List UInt8)}
theorem writes_call (T : TCode t) {v : V} {ps : List Pt} (hw : H.wf) (h : PsAt H v ps) (hn : ps.length < 9223372036854775808) (hfu : 100 < fuel) :
    ∃ H' vo, (∀ (d : Nat) (k : K), callP (evP cp t fuel (d + 1)) (.func 18 []) [v] H k = k vo H') ∧ Fresh H H' ∧ Grows H H' vo (wrsOf ps) := by
  rcases h with ⟨rfl | ⟨b, o, c, s, rfl⟩, rfl⟩ | ⟨b, o, c, s, row, rfl, h2, h3, h4⟩
  · refine ⟨H, .nils, fun d k => ?_, Fresh.refl hw, Or.inl ⟨rfl, rfl⟩⟩
    obtain ⟨f, rfl⟩ : ∃ f, fuel = f + 1 := ⟨fuel - 1, by omega⟩
    have n0 : nn 0 := by unfold nn; omega
    rw [call_entry T.k9 rfl rfl]
    simp only [go_sem, reduceCtorEq, Nat.reduceAdd, Nat.reduceSub, Nat.reduceMul, Nat.reduceEqDiff, Nat.reduceLT, Nat.reduceDiv, Nat.reduceMod, Nat.reduceLeDiff, ↓reduceIte, c9, evL_succ, c9l1, n0, Nat.lt_irrefl]
  · refine ⟨H, .nils, fun d k => ?_, Fresh.refl hw, Or.inl ⟨rfl, rfl⟩⟩
    obtain ⟨f, rfl⟩ : ∃ f, fuel = f + 1 := ⟨fuel - 1, by omega⟩
    have n0 : nn 0 := by unfold nn; omega
    have e1 : (0 : Nat) < 9223372036854775808 := by omega
    rw [call_entry T.k9 rfl rfl]
    simp only [go_sem, reduceCtorEq, Nat.reduceAdd, Nat.reduceSub, Nat.reduceMul, Nat.reduceEqDiff, Nat.reduceLT, Nat.reduceDiv, Nat.reduceMod, Nat.reduceLeDiff, ↓reduceIte, c9, evL_succ, c9l1, n0, e1, Nat.lt_irrefl]
  · obtain ⟨G', vo', f', hg, hL⟩ := writes_loop (fuel := fuel) (c := c) (s := s) h4 rfl hn h2 h3 hfu rfl (min ps.length 70) 0 H .nils (by omega) (Fresh.refl hw) (Or.inl ⟨rfl, rfl⟩)
    refine ⟨G', vo', fun d k => ?_, f', hg⟩
    rw [call_entry T.k9 rfl rfl]
    simp only [go_sem, reduceCtorEq, Nat.reduceAdd, Nat.reduceSub, Nat.reduceMul, Nat.reduceEqDiff, Nat.reduceLT, Nat.reduceDiv, Nat.reduceMod, Nat.reduceLeDiff, ↓reduceIte, c9]
    refine hL _ _ fuel _ (by omega) ?_ ?_ ?_ _ (fun e' q => ?_)
    · simp only [go_sem, reduceCtorEq, ↓reduceIte]
    · simp only [go_sem, reduceCtorEq, ↓reduceIte]
    · simp only [go_sem, reduceCtorEq, ↓reduceIte]
    · simp only [go_sem, reduceCtorEq, Nat.reduceAdd, Nat.reduceSub, Nat.reduceMul, Nat.reduceEqDiff, Nat.reduceLT, Nat.reduceDiv, Nat.reduceMod, Nat.reduceLeDiff, ↓reduceIte, q]
theorem letters_call (T : TCode t) {y : Nat} (hw : H.wf) (hy : y < 256) (hfu : 100 < fuel) :
    ∃ H', (∀ (d : Nat) (k : K), callP (evP cp t fuel (d + 2)) (.func 48 []) [.int 4 y] H k = k (.str 32 (enc (fullB y 32))) H') ∧ Fresh H H' := by
  have f1 : Fresh H (H.new (.cells [.int 3 0, .int 4 y, .bool false])) := Fresh.new hw
  have hps : PsAt (H.new (.cells [.int 3 0, .int 4 y, .bool false])) (.slice H.n 0 1 2 0) [(0, y, false)] := by
    refine Or.inr ⟨H.n, 0, 2, 0, _, rfl, by rw [Heap.get_new hw, if_pos rfl]; exact Or.inl rfl, by rw [Heap.n_new]; omega, ⟨?_, ?_, ?_, ?_⟩⟩
    · intro i x h; match i, h with | 0, h => simp only [List.getElem?_cons_zero, Option.some.injEq] at h; subst h; rfl
    · intro i x h; match i, h with | 0, h => simp only [List.getElem?_cons_zero, Option.some.injEq] at h; subst h; rfl
    · intro i x h; match i, h with | 0, h => simp only [List.getElem?_cons_zero, Option.some.injEq] at h; subst h; rfl
    · intro x hx; rw [List.mem_singleton.1 hx]; exact ⟨by show 0 < _; omega, hy⟩
  obtain ⟨H', vo, hwr, f', hg⟩ := writes_call (cp := cp) (fuel := fuel) T f1.wf hps (by simp) hfu
  obtain ⟨bo, rfl, hb⟩ : ∃ bo, vo = .slice bo 0 1 0 2 ∧ H'.get bo = .cells [.int 3 0, .str 32 (enc (fullB y 32))] := by
    rcases hg with ⟨_, h⟩ | ⟨bo, q1, q2, q3, q4, q5⟩
    · simp [wrsOf] at h
    · exact ⟨bo, q1, by rw [q3]; simp only [wrsOf, List.take, List.map_cons, List.map_nil, encW, List.flatMap_cons, List.flatMap_nil, encW1, wr1, tx, fullB_length, Bool.false_eq_true, if_false, List.append_nil]⟩
  refine ⟨H', fun d k => ?_, f1.trans f'⟩
  have e1 : (0 : Nat) < 1 := by omega
  have e2 : (0 : Nat) < 9223372036854775808 := by omega
  rw [call_entry T.k24 rfl rfl]
  simp only [go_sem, reduceCtorEq, Nat.reduceAdd, Nat.reduceSub, Nat.reduceMul, Nat.reduceEqDiff, Nat.reduceLT, Nat.reduceDiv, Nat.reduceMod, Nat.reduceLeDiff, ↓reduceIte, c24, hw, hwr, hb, e1, e2]
structure TJ (t : Nat → Option FnE) (pk : List UInt8 → List (List UInt8)) (unpk : List (List UInt8) → Option (List UInt8)) : Prop where
  T : TCode t
  hc : t 34 = some (.nat nClone)
  F : FrameOK pk unpk
  hp : t 47 = some (.nat (nPack pk))
  hu : t 42 = some (.nat (nUnpack unpk))
def A0 : AD := (AD.runs ⟨200, 200, 0, false, [], []⟩ [[(0, tx (hdr 0 0))]]).1
theorem ready_law (Q : TJ t pk unpk) (hw : H.wf) (hfu : 100 < fuel) :
    ∃ H' p O, (∀ (d : Nat) (k : K), callP (evP cp t fuel (d + 8)) (.func 14 []) [] H k = k (.ptr p 0) H') ∧ Disk H' p A0 O ∧ Fresh H H' ∧ ∀ b, O b → H.n ≤ b := by
  obtain ⟨T, hc, F, hp, hu⟩ := Q
  obtain ⟨H1, p, O1, hn, hD1, f1, o1⟩ := new_all (cp := cp) (fuel := fuel) (n := 200) (r := 200) (T.disk4 hc) hw (by omega) (by omega) (by unfold nn; omega)
  obtain ⟨H2, O2, hf, s2, hD2⟩ := format_call (cp := cp) (fuel := fuel) T hc hD1 rfl (by show 145 < 200; omega) (by show 200 ≤ 1024; omega) (by show 0 < _; omega) (by show 0 < _; omega) (Or.inr (by show 0 < 200; omega)) (by omega)
  have hcode := (runs_calm (l := [[(0, tx (hdr 0 0))]]) (A := ⟨200, 200, 0, false, [], []⟩) rfl).1
  rw [hcode] at hf
  obtain ⟨f2, o2⟩ := f1.own s2 o1
  refine ⟨H2, p, O2, fun d k => ?_, hD2, f2, o2⟩
  have hn' := fun {d : Nat} {k : K} => hn (d + 6) k
  rw [call_entry T.k7 rfl rfl]
  simp only [go_sem, reduceCtorEq, Nat.reduceAdd, Nat.reduceSub, Nat.reduceMul, Nat.reduceEqDiff, Nat.reduceLT, Nat.reduceDiv, Nat.reduceMod, Nat.reduceLeDiff, ↓reduceIte, c7, hn', hf]
theorem A0_ok (pk : List UInt8 → List (List UInt8)) : JD pk A0 0 0 [] ∧ A0.fuse = 0 ∧ A0.len = 200 ∧ A0.room = 200 ∧ A0.es = [(0, tx (hdr 0 0))] := by
  obtain ⟨j, h2, h3, ⟨g1, g2, g3, g4⟩⟩ := JD.start (pk := pk) (A := ⟨200, 200, 0, false, [], []⟩) (by show 145 < 200; omega) (by show 200 ≤ 1024; omega) rfl EsOK.nil rfl
  exact ⟨j, h2, g1, g2, g4⟩
end
end Go.Ev
end
section
namespace Go.Ev
theorem commit_ok {pk : List UInt8 → List (List UInt8)} {unpk : List (List UInt8) → Option (List UInt8)} (F : FrameOK pk unpk) {A : AD} {a n : Nat} {us ws : List Wr} (J : JD pk A a n us) (hf : A.fuse = 0) (hws : ∀ w ∈ ws, okT w.2) (hm : mayP A.len [] ws = true) (h6 : ws.length ≤ 60) (hr : A.es.length + ws.length + 73 ≤ A.room) : (A.commit pk a ws).2 = 0 := by
  unfold AD.commit
  rw [if_neg (by rw [J.off]; exact Bool.false_ne_true)]
  by_cases h0 : ws.length = 0
  · rw [if_pos h0]
  rw [if_neg h0, if_neg (by omega), if_neg (by rw [hm]; exact Bool.noConfusion)]
  have hgood := (mayP_good hm).1
  have hrec : RecOK ws := ⟨by omega, fun w hw => by have := (hgood w hw).1.2.1; have := J.rec_.can.hi; omega, fun w hw => (hgood w hw).1.2.2, hws⟩
  have hnum := F.num _ hrec.text
  have hfit : A.fits (0 :: (outs (1 - a) (pk (recT ws)) ++ ws).map (·.1)) = true := by
    refine decide_eq_true (Or.inr ?_)
    have h1 := frs_length (es := A.es) (ns := 0 :: (outs (1 - a) (pk (recT ws)) ++ ws).map (·.1)) (0 :: (outs (1 - a) (pk (recT ws)) ++ ws).map (·.1)).length
    have h2 : (0 :: (outs (1 - a) (pk (recT ws)) ++ ws).map (·.1)).length = (pk (recT ws)).length + ws.length + 1 := by simp [outs_length]
    omega
  rw [if_pos hfit]
  exact (runs_calm hf).1
def la (y : Nat) : Tx := tx (fullB y 32)
def wks : List Wr := [(145, la 97), (150, la 98)]
theorem sv_la (y : Nat) : sv (la y) = .str 32 (enc (fullB y 32)) := by
  rw [la, sv_tx, tv, fullB_length]
theorem la_len (y : Nat) : (la y).1 = 32 := fullB_length
theorem wks_may : mayP 200 [] wks = true := by
  have h1 : goodW 200 (145, la 97) := ⟨by show 145 ≤ 145; omega, by show 145 < 200; omega, la_len _⟩
  have h2 : goodW 200 (150, la 98) := ⟨by show 145 ≤ 150; omega, by show 150 < 200; omega, la_len _⟩
  simp only [wks, mayP]
  rw [if_pos ⟨h1, by simp⟩, if_pos ⟨h2, by simp⟩]
theorem encW_wks : encW wks = [.int 3 145, .str 32 (enc (fullB 97 32)), .int 3 150, .str 32 (enc (fullB 98 32))] := by
  simp only [encW, wks, List.flatMap_cons, List.flatMap_nil, encW1, la, tx, fullB_length, List.append_nil, List.cons_append, List.nil_append]
theorem recover_calm {A : AD} {n : Nat} {ws : List Wr} (ho : A.off = false) (hf : A.fuse = 0) : (A.recover n ws).2 = 0 := by
  unfold AD.recover
  rw [if_neg (by rw [ho]; exact Bool.false_ne_true)]
  split
  · rfl
  · exact (runs_calm hf).1
theorem JD.recover {pk : List UInt8 → List (List UInt8)} {A : AD} {a n : Nat} {ws : List Wr} (J : JD pk A a n ws) (hf : A.fuse = 0) : (A.recover n ws).2 = 0 ∧ (A.recover n ws).1.fuse = 0 ∧ (A.recover n ws).1.off = false ∧ (A.recover n ws).1.len = A.len ∧ ∀ k, find (A.recover n ws).1.es k = find A.es k := by
  refine ⟨recover_calm J.off hf, ?_⟩
  unfold AD.recover
  rw [if_neg (by rw [J.off]; exact Bool.false_ne_true)]
  by_cases h : n = 0
  · rw [if_pos h]; exact ⟨hf, J.off, rfl, fun _ => rfl⟩
  · rw [if_neg h]
    obtain ⟨h1, h2⟩ := runs_calm (l := [ws]) hf
    obtain ⟨⟨g1, g2, g3, g4⟩, g5⟩ := runs_went (l := [ws]) (A := A) (fun us hus w hw => by
      rw [List.mem_singleton.1 hus] at hw
      exact (J.rec_.record h).2.2.1.len w hw) h1
    refine ⟨h2, g3.trans J.off, g1, fun k => ?_⟩
    rw [g4]
    simp only [List.flatten_cons, List.flatten_nil, List.append_nil]
    exact laid_same (J.some_ h)
section
variable {cp : RC → CodeE} {t : Nat → Option FnE} {fuel : Nat} {H : Heap} {pk : List UInt8 → List (List UInt8)} {unpk : List (List UInt8) → Option (List UInt8)}
set_option maxHeartbeats 1000000 in
theorem works_call (Q : TJ t pk unpk) (hw : H.wf) (hfu : 10000 < fuel) :
    ∃ H', (∀ (d : Nat) (k : K), callP (evP cp t fuel (d + 9)) (.func 24 []) [] H k = k (.bool true) H') ∧ Fresh H H' := by
  obtain ⟨H1, p, O1, hr, hD1, f1, o1⟩ := ready_law (cp := cp) (fuel := fuel) Q hw (by omega)
  obtain ⟨T, hc, F, hp, hu⟩ := Q
  obtain ⟨J, a2, a3, a4, a5⟩ := A0_ok pk
  obtain ⟨H2, l2, f2⟩ := letters_call (cp := cp) (fuel := fuel) (y := 97) T f1.wf (by omega) (by omega)
  obtain ⟨H3, l3, f3⟩ := letters_call (cp := cp) (fuel := fuel) (y := 98) T f2.wf (by omega) (by omega)
  have hw3 := f3.wf
  have f4 : Fresh H3 (H3.new (.cells [.int 3 145, .str 32 (enc (fullB 97 32)), .int 3 150, .str 32 (enc (fullB 98 32))])) := Fresh.new hw3
  have f14 := (f2.trans f3).trans f4
  have hat : WsAt (H3.new (.cells [.int 3 145, .str 32 (enc (fullB 97 32)), .int 3 150, .str 32 (enc (fullB 98 32))])) (.slice H3.n 0 2 3 0) wks O1 := Or.inr ⟨H3.n, 3, 0, rfl, by rw [Heap.get_new hw3, if_pos rfl, encW_wks], by rw [Heap.n_new]; omega, fun h => by have := hD1.lt _ h; have := (f2.trans f3).n; omega⟩
  have hok : ∀ w ∈ wks, okT w.2 := fun w hw => by
    simp only [wks, List.mem_cons, List.not_mem_nil, or_false] at hw
    rcases hw with rfl | rfl <;> exact enc_lt _
  obtain ⟨H5, O5, c5, s5, hD5⟩ := commit_call (cp := cp) (fuel := fuel) T hc F hp (hD1.fresh f14) J.rec_.can hat (fun w hw => by
    simp only [wks, List.mem_cons, List.not_mem_nil, or_false] at hw
    rcases hw with rfl | rfl
    · exact ⟨by show 145 < _; omega, by show (la 97).1 < _; rw [la_len]; omega, enc_lt _⟩
    · exact ⟨by show 150 < _; omega, by show (la 98).1 < _; rw [la_len]; omega, enc_lt _⟩) (by simp [wks]) hfu
  have hdid := J.commit F a2 hok
  have h0 := commit_ok F J a2 hok (by rw [a3]; exact wks_may) (by simp [wks]) (by rw [a4, a5]; simp [wks])
  obtain ⟨d1, d2, d3, d4, ⟨a', n', us', J'⟩, d6⟩ := hdid
  obtain ⟨y1, y2⟩ := d6 h0
  rw [h0] at c5
  generalize (A0.commit pk 0 wks).1 = A1 at *
  obtain ⟨H6, O6, c6, s6, hD6⟩ := recover_call (cp := cp) (fuel := fuel) T hc F hu hD5 J'.rec_ hfu
  obtain ⟨r1, r2, r3, r4, r5⟩ := J'.recover d2
  rw [r1] at c6
  have hf : ∀ w ∈ wks, (A1.recover n' us').1.read w.1 = w.2 := fun w hw => by
    have hk : 145 ≤ w.1 := by
      simp only [wks, List.mem_cons, List.not_mem_nil, or_false] at hw
      rcases hw with rfl | rfl
      · exact Nat.le_refl _
      · show 145 ≤ 150; omega
    rw [AD.read, r5, y1 _ hk, find_laid_mem (by simp [wks]) hw]
    rfl
  obtain ⟨H7, c7, f7⟩ := read_all (cp := cp) (fuel := fuel) (a := 145) (T.disk4 hc) hD6 r3 (by rw [r4, d3, a3]; omega)
  have hD7 := hD6.fresh f7
  obtain ⟨H8, c8, f8⟩ := read_all (cp := cp) (fuel := fuel) (a := 150) (T.disk4 hc) hD7 r3 (by rw [r4, d3, a3]; omega)
  rw [hf (145, la 97) (by simp [wks]), sv_la] at c7
  rw [hf (150, la 98) (by simp [wks]), sv_la] at c8
  obtain ⟨H9, l9, f9⟩ := letters_call (cp := cp) (fuel := fuel) (y := 97) T f8.wf (by omega) (by omega)
  obtain ⟨H10, l10, f10⟩ := letters_call (cp := cp) (fuel := fuel) (y := 98) T f9.wf (by omega) (by omega)
  have s16 := (f14.step (O := O1)).trans (s5.trans s6)
  obtain ⟨f16, o6⟩ := f1.own s16 o1
  refine ⟨H10, fun d k => ?_, f16.trans ((f7.trans f8).trans (f9.trans f10))⟩
  have l2' := fun {d : Nat} {k : K} => l2 (d + 6) k
  have l3' := fun {d : Nat} {k : K} => l3 (d + 6) k
  have c5' := fun {d : Nat} {k : K} => c5 (d + 1) k
  have c6' := fun {d : Nat} {k : K} => c6 (d + 1) k
  have c7' := fun {d : Nat} {k : K} => c7 (d + 5) k
  have c8' := fun {d : Nat} {k : K} => c8 (d + 5) k
  have l9' := fun {d : Nat} {k : K} => l9 (d + 6) k
  have l10' := fun {d : Nat} {k : K} => l10 (d + 6) k
  rw [call_entry T.k12 rfl rfl]
  simp only [go_sem, reduceCtorEq, Nat.reduceAdd, Nat.reduceSub, Nat.reduceMul, Nat.reduceEqDiff, Nat.reduceLT, Nat.reduceDiv, Nat.reduceMod, Nat.reduceLeDiff, ↓reduceIte, c12, hr, l2', l3', hw3, c5', c6', c7', c8', l9', l10']
end
end Go.Ev
end
section
namespace Go.Ev
def PssAt (H : Heap) (v : V) (pss : List (List Pt)) : Prop := (NoneV v ∧ pss = []) ∨ ∃ b o c s row, v = .slice b o pss.length c s ∧ isRow (H.get b) row ∧ b < H.n ∧ ∀ i ps, pss[i]? = some ps → ∃ w, row[o + i]? = some w ∧ PsAt H w ps ∧ ps.length < 9223372036854775808
theorem PssAt.fresh {H H' : Heap} {v : V} {pss : List (List Pt)} (h : PssAt H v pss) (f : Fresh H H') : PssAt H' v pss := by
  rcases h with h | ⟨b, o, c, s, row, h1, h2, h3, h4⟩
  · exact Or.inl h
  · exact Or.inr ⟨b, o, c, s, row, h1, by rw [f.same b h3]; exact h2, Nat.lt_of_lt_of_le h3 f.n, fun i ps hi => let ⟨w, q1, q2, q3⟩ := h4 i ps hi; ⟨w, q1, q2.fresh f, q3⟩⟩
structure JS (pk : List UInt8 → List (List UInt8)) (H0 G : Heap) (p : Nat) (A : AD) (O : Nat → Prop) : Prop where
  fresh : Fresh H0 G
  disk : Disk G p A O
  own : ∀ b, O b → H0.n ≤ b
  jd : ∃ a n us, JD pk A a n us
  fuse : A.fuse = 0
  len : A.len = 200
theorem JS.go {pk : List UInt8 → List (List UInt8)} {H0 G G' : Heap} {p : Nat} {A : AD} {O : Nat → Prop} (h : JS pk H0 G p A O) (f : Fresh G G') : JS pk H0 G' p A O := ⟨h.fresh.trans f, h.disk.fresh f, h.own, h.jd, h.fuse, h.len⟩
theorem JS.keep {pk : List UInt8 → List (List UInt8)} {H0 G G' : Heap} {p : Nat} {A : AD} {O Q Q' : Nat → Prop} (h : JS pk H0 G p A O) (f : Fresh H0 G') (s : Step G Q G' Q') (hd : ∀ b, O b → ¬ Q b) : JS pk H0 G' p A O ∧ ∀ b, O b → ¬ Q' b :=
  let ⟨k1, k2⟩ := h.disk.keep s hd
  ⟨⟨f, k1, h.own, h.jd, h.fuse, h.len⟩, k2⟩
section
variable {cp : RC → CodeE} {t : Nat → Option FnE} {fuel : Nat} {H : Heap} {pk : List UInt8 → List (List UInt8)} {unpk : List (List UInt8) → Option (List UInt8)}
theorem jready (Q : TJ t pk unpk) (hw : H.wf) (hfu : 100 < fuel) :
    ∃ H' p O, (∀ (d : Nat) (k : K), callP (evP cp t fuel (d + 8)) (.func 14 []) [] H k = k (.ptr p 0) H') ∧ JS pk H H' p A0 O := by
  obtain ⟨H', p, O, h1, h2, h3, h4⟩ := ready_law (cp := cp) (fuel := fuel) Q hw hfu
  obtain ⟨j, a2, a3, a4, a5⟩ := A0_ok pk
  exact ⟨H', p, O, h1, ⟨h3, h2, h4, ⟨_, _, _, j⟩, a2, a3⟩⟩
theorem jcommit (Q : TJ t pk unpk) {G : Heap} {p : Nat} {A : AD} {O : Nat → Prop} (S : JS pk H G p A O) {v : V} {ps : List Pt} (hv : PsAt H v ps) (hn : ps.length < 9223372036854775808) (hfu : 10000 < fuel) :
    ∃ G1 vw G2 B O2, (∀ (d : Nat) (k : K), callP (evP cp t fuel (d + 1)) (.func 18 []) [v] G k = k vw G1) ∧ (∀ (d : Nat) (k : K), callP (evP cp t fuel (d + 7)) (.func 16 []) [.ptr p 0, vw] G1 k = k (.int 3 B.2) G2) ∧ Did pk A (wrsOf ps) B ∧ JS pk H G2 p B.1 O2 ∧ Step G O G2 O2 := by
  obtain ⟨T, hc, F, hp, hu⟩ := Q
  obtain ⟨f0, hD, hO, ⟨a, n, us, J⟩, hf, hl⟩ := S
  obtain ⟨G1, vw, c1w, f1, hg⟩ := writes_call (cp := cp) (fuel := fuel) T f0.wf (hv.fresh f0) hn (by omega)
  obtain ⟨w1, w2⟩ := wrsOf_ok ps hv.small
  obtain ⟨G2, O2, c2c, s2, hD2⟩ := commit_call (cp := cp) (fuel := fuel) T hc F hp (hD.fresh f1) J.rec_.can (hg.at_ hD.lt) w2 (by omega) hfu
  have hd := J.commit F hf (ws := wrsOf ps) fun w hw => (w2 w hw).2.2
  obtain ⟨fz, oz⟩ := f0.own (f1.step.trans s2) hO
  exact ⟨G1, vw, G2, _, O2, c1w, c2c, hd, ⟨fz, hD2, oz, hd.jd, hd.fuse, hd.len.trans hl⟩, f1.step.trans s2⟩
end
end Go.Ev
end
section
namespace Go.Ev
open Go.Deep Go.ChangeShapes Go.WideShapes
theorem cell_view {w : World} {b i : Nat} {cv : Value} (h : w.cell? ⟨b, i, none⟩ = some cv) (hf : w.frozen? ⟨b, i, none⟩ = false) : ∃ row, gOf w b = .view row ∧ b < w.heap.size ∧ row[i]? = some (vOf w.heap.size cv) := by
  unfold World.cell? at h
  unfold World.frozen? at hf
  unfold gOf
  split at h
  · rename_i c e fr hc
    rw [hc] at hf ⊢
    simp only [Option.isSome_none, Bool.false_eq_true, if_false] at h
    refine ⟨_, rfl, (Array.getElem?_eq_some_iff.1 hc).1, rowView_get h ?_⟩
    simpa using hf
  · cases h
theorem vOf_int {N : Nat} {k : IntKind} {n : Int} (h : (Lit.int k n).wf = true) : vOf N (.int k n) = .int (kOf k) (n % (2 ^ k.bits : Nat)).toNat := by
  have hw : k.wrap n = n := by
    unfold Lit.wf at h
    simp only [Bool.and_eq_true, decide_eq_true_eq] at h
    obtain ⟨h1, h2⟩ := h
    cases k <;> simp [IntKind.min, IntKind.max, IntKind.bits, IntKind.signed] at h1 h2 <;> simp [IntKind.wrap, IntKind.bits, IntKind.signed] <;> omega
  unfold vOf constV1
  simp [hw]
theorem vOf_bool {N : Nat} {b : Bool} : vOf N (.bool b) = .bool b := rfl
theorem vOf_slice {N : Nat} {b o l cap : Nat} (h : l ≤ cap) (hb : b < N) : vOf N (.slice (some ⟨b, o, none⟩) l cap) = .slice b o l (cap + 1) 0 := by
  show (if l ≤ cap then _ else _) = _
  rw [if_pos h, if_pos ⟨rfl, hb⟩]
theorem vOf_none {N : Nat} {a : Addr} : NoneV (vOf N (.slice (some a) 0 0)) ∧ (vOf N (.slice (some a) 0 0)).one = true := by
  have : vOf N (.slice (some a) 0 0) = if a.spot = none ∧ a.block < N then .slice a.block a.off 0 (0 + 1) 0 else .slice N a.off 0 1 0 := by
    show (if 0 ≤ 0 then (if a.spot = none ∧ a.block < N then V.slice a.block a.off 0 (0 + 1) 0 else if 0 = 0 then V.slice N a.off 0 1 0 else V.tup []) else V.tup []) = _
    rw [if_pos (Nat.le_refl _), if_pos rfl]
  rw [this]
  split
  · exact ⟨Or.inr ⟨_, _, _, _, rfl⟩, rfl⟩
  · exact ⟨Or.inr ⟨_, _, _, _, rfl⟩, rfl⟩
section
variable {H : Type} {enc : TypeId × Value → H} {P : Program} {w : World}
theorem slice_seen {t e : TypeId} {z fuel : Nat} {v : Value} {x : DataW H × List MemPlace} (ht : P.underlying t = some (.slice e)) (hz : P.cellsOf e = z) (hz0 : 0 < z) (h : DataW.trod enc P w 0 (fun _ => true) true fuel t [v] = some x) (hnf : w.noneFrozen x.2) :
    (vOf w.heap.size v).one = true ∧ ((NoneV (vOf w.heap.size v)) ∨ ∃ b o len c row, 0 < len ∧ len ≤ 9223372036854775807 ∧ vOf w.heap.size v = .slice b o len c 0 ∧ (adopt w).get b = .view row ∧ b < (adopt w).n ∧
      ∀ i, i < len → ∃ (cs : List Value) (n : Nat) (y : DataW H × List MemPlace), cs.length = z ∧ (∀ j cv, cs[j]? = some cv → row[o + i * z + j]? = some (vOf w.heap.size cv)) ∧ DataW.trod enc P w 0 (fun _ => true) true n e cs = some y ∧ w.noneFrozen y.2) := by
  rcases open_slice ht h with ⟨hcs, _⟩ | ⟨a, len, cap, m, n, D, Pl, hcs, _, hl, hm, hmc, rfl, hx⟩
  · cases hcs
    exact ⟨rfl, Or.inl (Or.inl rfl)⟩
  simp only [List.cons.injEq, and_true] at hcs
  subst hcs
  simp only [if_true] at hmc
  have hmc' : cap = m := hmc.symm
  subst hmc'
  rw [hz] at hx hnf
  by_cases hc0 : cap = 0
  · subst hc0
    obtain rfl : len = 0 := by omega
    exact ⟨vOf_none.2, Or.inl vOf_none.1⟩
  have hcell : ∀ i, i < cap → ∀ j, j < z → ∃ cs, w.cells? 0 (a.add (i * z)) z = some cs ∧ ∃ cv, cs[j]? = some cv ∧ w.cell? ⟨a.block, a.off + i * z + j, none⟩ = some cv ∧ a.spot = none := fun i hi j hj => by
    obtain ⟨cs, h1, h2⟩ := hx i hi
    obtain ⟨_, hlen, hc⟩ := World.cells?_some h1
    have hcj := hc j hj
    rw [List.getElem?_eq_getElem (by omega : j < cs.length)] at hcj
    obtain ⟨_, _, hc00⟩ := World.cells?_some (hx 0 (by omega)).choose_spec.1
    have h00 := hc00 0 hz0
    rw [List.getElem?_eq_getElem (by rw [(World.cells?_some (hx 0 (by omega)).choose_spec.1).2.1]; exact hz0)] at h00
    have hsp : a.spot = none := by
      have := World.cell?_spot h00
      simpa [Addr.add] using this
    refine ⟨cs, h1, _, List.getElem?_eq_getElem (by omega), ?_, hsp⟩
    obtain ⟨ab, ao, asp⟩ := a
    obtain rfl : asp = none := hsp
    rw [Addr.add_lit, Addr.add_lit] at hcj
    exact hcj
  obtain ⟨ab, ao, asp⟩ := a
  obtain rfl : asp = none := (hcell 0 (by omega) 0 hz0).choose_spec.2.choose_spec.2.2
  have hfz : ∀ k, k < cap * z → w.frozen? ⟨ab, ao + k, none⟩ = false := fun k hk => hnf ab (ao + k) (List.mem_append_left _ (List.mem_map.2 ⟨k, List.mem_range.2 hk, rfl⟩))
  have hcz : 0 < cap * z := Nat.mul_pos (by omega) hz0
  obtain ⟨_, _, cv0, _, hc0', _⟩ := hcell 0 (by omega) 0 hz0
  simp only [Nat.zero_mul, Nat.add_zero] at hc0'
  obtain ⟨row, r1, r2, _⟩ := cell_view hc0' (by simpa using hfz 0 hcz)
  have hv := vOf_slice (N := w.heap.size) (o := ao) hl r2
  rw [hv]
  refine ⟨rfl, ?_⟩
  by_cases hl0 : len = 0
  · subst hl0; exact Or.inl (Or.inr ⟨_, _, _, _, rfl⟩)
  refine Or.inr ⟨ab, ao, len, cap + 1, row, by omega, by unfold maxLen at hm; omega, rfl, by rw [adopt_get]; exact r1, by rw [adopt_n]; omega, fun i hi => ?_⟩
  obtain ⟨cs, h1, h2⟩ := hx i (by omega)
  obtain ⟨_, hlen, hc⟩ := World.cells?_some h1
  refine ⟨cs, n, _, hlen, fun j cv hj => ?_, h2, fun b off hb => hnf b off (List.mem_append_right _ (List.mem_flatMap.2 ⟨i, List.mem_range.2 (by omega), hb⟩))⟩
  have hjz : j < z := by have := (List.getElem?_eq_some_iff.1 hj).1; omega
  have hcj := hc j hjz
  rw [hj] at hcj
  rw [Addr.add_lit, Addr.add_lit] at hcj
  have hk : i * z + j < cap * z := by
    have : (i + 1) * z ≤ cap * z := Nat.mul_le_mul_right _ (by omega)
    rw [Nat.add_mul] at this
    omega
  obtain ⟨row', r1', _, r3'⟩ := cell_view hcj (by rw [Nat.add_assoc]; exact hfz _ hk)
  rw [r1] at r1'
  cases r1'
  exact r3'
theorem ps_seen {t e : TypeId} {f0 f1 f2 : Field} {fuel : Nat} {v : Value} {x : DataW H × List MemPlace} (ht : P.underlying t = some (.slice e)) (he : P.underlying e = some (.struct #[f0, f1, f2])) (hz : P.cellsOf e = 3)
    (o0 : f0.offset = 0) (o1 : f1.offset = 1) (o2 : f2.offset = 2) (c0 : P.cellsOf f0.type = 1) (c1 : P.cellsOf f1.type = 1) (c2 : P.cellsOf f2.type = 1) (u0 : P.underlying f0.type = some (.int .i64)) (u1 : P.underlying f1.type = some (.int .u8)) (u2 : P.underlying f2.type = some .bool)
    (h : DataW.trod enc P w 0 (fun _ => true) true fuel t [v] = some x) (hnf : w.noneFrozen x.2) :
    (vOf w.heap.size v).one = true ∧ ∃ ps, PsAt (adopt w) (vOf w.heap.size v) ps ∧ ps.length < 9223372036854775808 := by
  obtain ⟨h1, h2⟩ := slice_seen ht hz (by omega) h hnf
  refine ⟨h1, ?_⟩
  rcases h2 with h2 | ⟨b, o, len, c, row, hl0, hl, hv, hb, hbn, hx⟩
  · exact ⟨[], Or.inl ⟨h2, rfl⟩, by simp⟩
  have each : ∀ i, i < len → ∃ p : Pt, row[o + i * 3]? = some (.int 3 p.1) ∧ row[o + i * 3 + 1]? = some (.int 4 p.2.1) ∧ row[o + i * 3 + 2]? = some (.bool p.2.2) ∧ p.1 < 18446744073709551616 ∧ p.2.1 < 256 := fun i hi => by
    obtain ⟨cs, n, y, hlen, hcs, htr, _⟩ := hx i hi
    obtain ⟨xs, n', _, _, _, _, hf⟩ := DataW.trod_struct he htr
    match cs, hlen with
    | [v0, v1, v2], _ =>
      have g0 := hf 0 f0 rfl
      have g1 := hf 1 f1 rfl
      have g2 := hf 2 f2 rfl
      obtain ⟨xsl⟩ : True := trivial
      simp [o0, c0] at g0
      simp [o1, c1] at g1
      simp [o2, c2] at g2
      have hxl : xs.length = 3 := by assumption
      rw [List.getElem?_eq_getElem (by omega)] at g0 g1 g2
      obtain ⟨n0, e0, _, w0⟩ := DataW.trod_int u0 g0
      obtain ⟨n1, e1, _, w1⟩ := DataW.trod_int u1 g1
      obtain ⟨b2, e2, _⟩ := DataW.trod_bool u2 g2
      cases e0; cases e1; cases e2
      have r0 := hcs 0 _ rfl
      have r1 := hcs 1 _ rfl
      have r2 := hcs 2 _ rfl
      rw [vOf_int w0] at r0
      rw [vOf_int w1] at r1
      rw [vOf_bool] at r2
      refine ⟨(_, _, _), r0, r1, r2, ?_, ?_⟩
      · show (n0 % (2 ^ IntKind.i64.bits : Nat)).toNat < _
        have h1 : (0 : Int) ≤ n0 % (2 ^ IntKind.i64.bits : Nat) := Int.emod_nonneg _ (by simp [IntKind.bits])
        have h2 : n0 % (2 ^ IntKind.i64.bits : Nat) < (2 ^ IntKind.i64.bits : Nat) := Int.emod_lt_of_pos _ (by simp [IntKind.bits])
        simp only [IntKind.bits] at h1 h2 ⊢
        omega
      · show (n1 % (2 ^ IntKind.u8.bits : Nat)).toNat < _
        have h1 : (0 : Int) ≤ n1 % (2 ^ IntKind.u8.bits : Nat) := Int.emod_nonneg _ (by simp [IntKind.bits])
        have h2 : n1 % (2 ^ IntKind.u8.bits : Nat) < (2 ^ IntKind.u8.bits : Nat) := Int.emod_lt_of_pos _ (by simp [IntKind.bits])
        simp only [IntKind.bits] at h1 h2 ⊢
        omega
  obtain ⟨p, hp⟩ := choose_lt each
  have hget : ∀ i x, ((List.range len).map p)[i]? = some x → i < len ∧ x = p i := fun i x hi => by
    rw [List.getElem?_map] at hi
    obtain ⟨q, h3, rfl⟩ := Option.map_eq_some_iff.1 hi
    obtain ⟨h4, h5⟩ := List.getElem?_eq_some_iff.1 h3
    rw [List.getElem_range] at h5
    subst h5
    exact ⟨by simpa using h4, rfl⟩
  refine ⟨(List.range len).map p, Or.inr ⟨b, o, c, 0, row, ?_, Or.inr hb, hbn, ⟨fun i x hi => ?_, fun i x hi => ?_, fun i x hi => ?_, fun x hx => ?_⟩⟩, by rw [List.length_map, List.length_range]; omega⟩
  · rw [hv]; simp
  · obtain ⟨h3, rfl⟩ := hget i x hi; exact (hp i h3).1
  · obtain ⟨h3, rfl⟩ := hget i x hi; exact (hp i h3).2.1
  · obtain ⟨h3, rfl⟩ := hget i x hi; exact (hp i h3).2.2.1
  · obtain ⟨i, hi⟩ := List.getElem?_of_mem hx
    obtain ⟨h3, rfl⟩ := hget i x hi; exact (hp i h3).2.2.2
theorem pss_seen {t q e : TypeId} {f0 f1 f2 : Field} {fuel : Nat} {v : Value} {x : DataW H × List MemPlace} (ht : P.underlying t = some (.slice q)) (hq1 : P.cellsOf q = 1) (hq : P.underlying q = some (.slice e)) (he : P.underlying e = some (.struct #[f0, f1, f2])) (hz : P.cellsOf e = 3)
    (o0 : f0.offset = 0) (o1 : f1.offset = 1) (o2 : f2.offset = 2) (c0 : P.cellsOf f0.type = 1) (c1 : P.cellsOf f1.type = 1) (c2 : P.cellsOf f2.type = 1) (u0 : P.underlying f0.type = some (.int .i64)) (u1 : P.underlying f1.type = some (.int .u8)) (u2 : P.underlying f2.type = some .bool)
    (h : DataW.trod enc P w 0 (fun _ => true) true fuel t [v] = some x) (hnf : w.noneFrozen x.2) :
    (vOf w.heap.size v).one = true ∧ ∃ pss, PssAt (adopt w) (vOf w.heap.size v) pss ∧ pss.length < 9223372036854775808 := by
  obtain ⟨h1, h2⟩ := slice_seen ht hq1 (by omega) h hnf
  refine ⟨h1, ?_⟩
  rcases h2 with h2 | ⟨b, o, len, c, row, hl0, hl, hv, hb, hbn, hx⟩
  · exact ⟨[], Or.inl ⟨h2, rfl⟩, by simp⟩
  have each : ∀ i, i < len → ∃ ps : List Pt, ∃ w', row[o + i]? = some w' ∧ PsAt (adopt w) w' ps ∧ ps.length < 9223372036854775808 := fun i hi => by
    obtain ⟨cs, n, y, hlen, hcs, htr, hnf'⟩ := hx i hi
    match cs, hlen with
    | [v0], _ =>
      obtain ⟨k1, ps, k2, k3⟩ := ps_seen hq he hz o0 o1 o2 c0 c1 c2 u0 u1 u2 htr hnf'
      have := hcs 0 _ rfl
      rw [Nat.mul_one, Nat.add_zero] at this
      exact ⟨ps, _, this, k2, k3⟩
  obtain ⟨p, hp⟩ := choose_lt each
  refine ⟨(List.range len).map p, Or.inr ⟨b, o, c, 0, row, by rw [hv]; simp, Or.inr hb, hbn, fun i x hi => ?_⟩, by rw [List.length_map, List.length_range]; omega⟩
  rw [List.getElem?_map] at hi
  obtain ⟨q, h3, rfl⟩ := Option.map_eq_some_iff.1 hi
  obtain ⟨h4, h5⟩ := List.getElem?_eq_some_iff.1 h3
  rw [List.getElem_range] at h5
  subst h5
  obtain ⟨w', k1, k2, k3⟩ := hp i (by simpa using h4)
  exact ⟨w', k1, k2, k3⟩
end
end Go.Ev
end
