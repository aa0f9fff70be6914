/- LD: a part of the evaluator, of its logic, or of the laws' walk in it. -/
import Derived.Test.YtmegpbadkojhbaaGreatDoorLC
set_option linter.unusedVariables false
set_option linter.unusedSimpArgs false
set_option linter.unusedSectionVars false
section
namespace Go.Ev
def RdAt (G : Heap) (r : Nat) (s : List UInt8) (pos : Nat) : Prop := ∃ b, G.get r = rdBlk b s pos ∧ r < G.n ∧ G.get b = .bytes s.length (enc s) ∧ b < G.n ∧ b ≠ r
theorem RdAt.same {G G' : Heap} {r pos : Nat} {s : List UInt8} (h : RdAt G r s pos) (hn : G.n ≤ G'.n) (hs : ∀ j, j < G.n → (∃ x, G.get j = .bytes s.length x) ∨ j = r → G'.get j = G.get j) : RdAt G' r s pos := by
  obtain ⟨b, h1, h2, h3, h4, h5⟩ := h
  exact ⟨b, (hs r h2 (Or.inr rfl)).trans h1, by omega, (hs b h4 (Or.inl ⟨_, h3⟩)).trans h3, by omega, h5⟩
section
variable {cp : RC → CodeE} {t : Nat → Option FnE} {fuel : Nat} {H : Heap}
theorem num_step (T : TCode t) {G : Heap} {r pos n : Nat} {s rest : List UInt8} (f : Fresh H G) (hr : RdAt G r s pos) (hrH : H.n ≤ r) (hlen : s.length < 1000000) (hn : n < 18446744073709551616) (hd : s.drop pos = pnum n ++ rest) (hfu : 8 < fuel) :
    ∃ G', (∀ (d : Nat) (k : K), callP (evP cp t fuel (d + 2)) (.func 157 [.ptr r 0]) [] G k = k (.int 7 n) G') ∧ RdAt G' r s (pos + (pnum n).length) ∧ Fresh H G' ∧ (∀ j, j ≠ r → G'.get j = G.get j) ∧ G'.n = G.n := by
  obtain ⟨b, h1, h2, h3, h4, h5⟩ := hr
  have hw := f.wf
  refine ⟨G.put r (rdBlk b s (pos + (pnum n).length)), fun d k => ?_, ⟨b, by rw [Heap.get_put hw h2, if_pos rfl], by rw [Heap.n_put]; exact h2, by rw [Heap.get_put hw h2, if_neg h5]; exact h3, by rw [Heap.n_put]; exact h4, h5⟩, f.put hrH h2, fun j hj => by rw [Heap.get_put hw h2, if_neg hj], Heap.n_put⟩
  rw [call_bound (f := 157) (g := 156) rfl rfl rfl]
  exact num_call T hw h1 h2 h3 h5 hlen hn hd hfu
theorem ok_step (T : TCode t) {G : Heap} {r pos : Nat} {s : List UInt8} (hr : RdAt G r s pos) (d : Nat) (k : K) : callP (evP cp t fuel (d + 1)) (.func 159 [.ptr r 0]) [] G k = k (.bool true) G := by
  obtain ⟨b, h1, _⟩ := hr
  rw [call_bound (f := 159) (g := 158) rfl rfl rfl]
  exact ok_call T h1
set_option maxHeartbeats 1000000 in
theorem next_call (T : TCode t) (hc : HasClone t) {G : Heap} {BD BA BE dp j : Nat} {A : AD} {O : Nat → Prop} {va : V} {row : List V} {s : List UInt8} (f : Fresh H G) (hD : Disk H dp A O) (ho : A.off = false) (hlen : 145 + j < A.len) (hA : A.len ≤ 1024) (hrd : A.read (145 + j) = tx s) (hs32 : s.length = 32)
    (gD : G.get BD = .cells [.ptr dp 0]) (gA : G.get BA = .cells [va]) (gE : G.get BE = .cells [.int 3 0]) (hBA : H.n ≤ BA) (hBE : H.n ≤ BE) (nD : BD < G.n) (nA : BA < G.n) (nE : BE < G.n) (x1 : BA ≠ BE) (x2 : BD ≠ BA) (x3 : BD ≠ BE) (hg : Gr H G va 1 j row) (oD : Off va BD) (oA : Off va BA) (oE : Off va BE) :
    ∃ G' r va', (∀ (d : Nat) (k : K), callP (evP cp t fuel (d + 4)) (.func 152 [.ptr BD 0, .ptr BA 0, .ptr BE 0]) [] G k = k (.tup [.func 157 [.ptr r 0], .func 159 [.ptr r 0]]) G') ∧ Fresh H G' ∧ RdAt G' r s 0 ∧ G.n ≤ r ∧ G'.get BA = .cells [va'] ∧ G'.get BE = .cells [.int 3 0] ∧ Gr H G' va' 1 (j + 1) (row ++ [tv s]) ∧
      (∀ i, i < G.n → i ≠ BA → i ≠ BE → Off va i → G'.get i = G.get i) ∧ G.n ≤ G'.n ∧ ∀ i, i < G.n → Off va' i := by
  have hnG := f.n
  obtain ⟨G1, z1, f1⟩ := read_all (cp := cp) (fuel := fuel) (a := 145 + j) (T.disk4 hc) (hD.fresh f) ho hlen
  rw [hrd] at z1
  have hw1 := f1.wf
  have m1 := f1.n
  have gE1 : G1.get BE = .cells [.int 3 0] := (f1.same _ nE).trans gE
  have gA1 : G1.get BA = .cells [va] := (f1.same _ nA).trans gA
  have gD1 : G1.get BD = .cells [.ptr dp 0] := (f1.same _ nD).trans gD
  -- the error
  have f2 : Fresh H (G1.put BE (.cells [.int 3 0])) := (f.trans f1).put hBE (by omega)
  have g2 : ∀ i, (G1.put BE (.cells [.int 3 0])).get i = G1.get i := fun i => by
    rw [Heap.get_put hw1 (by omega)]
    split
    · rename_i e; rw [e, gE1]
    · rfl
  have n2 : (G1.put BE (.cells [.int 3 0])).n = G1.n := Heap.n_put
  generalize hG2 : G1.put BE (.cells [.int 3 0]) = G2 at f2 g2 n2
  have hw2 := f2.wf
  -- the text
  have f3 : Fresh G2 (G2.new (.cells [tv s])) := Fresh.new hw2
  have g3 : (G2.new (.cells [tv s])).get G2.n = .cells [tv s] := by rw [Heap.get_new hw2, if_pos rfl]
  have n3 : (G2.new (.cells [tv s])).n = G2.n + 1 := Heap.n_new
  have hg3 : Gr H (G2.new (.cells [tv s])) va 1 j row := by
    obtain ⟨q1, q2, q3 | ⟨b, c, z, q3, q4, q5, q6, q7, q8⟩⟩ := hg
    · exact ⟨q1, q2, Or.inl q3⟩
    · exact ⟨q1, q2, Or.inr ⟨b, c, z, q3, q4, q5, by rw [f3.same b (by omega), g2, f1.same b q8]; exact q6, q7, by omega⟩⟩
  have hjb : j < 1000000 := by omega
  obtain ⟨va', G4, hop, hg4, f4, k4, n4, o4⟩ := Gr.app (cx := 2) (sx := 0) (f2.trans f3) hg3 g3 rfl (by simp [tv, V.one]) hjb
  have hw4 := f4.wf
  have gA4 : G4.get BA = .cells [va] := by rw [k4 BA (by omega) oA, f3.same BA (by omega), g2]; exact gA1
  -- all
  have f5 : Fresh H (G4.put BA (.cells [va'])) := f4.put hBA (by omega)
  have g5 : ∀ i, i ≠ BA → (G4.put BA (.cells [va'])).get i = G4.get i := fun i hi => by rw [Heap.get_put hw4 (by omega), if_neg hi]
  have g5A : (G4.put BA (.cells [va'])).get BA = .cells [va'] := by rw [Heap.get_put hw4 (by omega), if_pos rfl]
  have n5 : (G4.put BA (.cells [va'])).n = G4.n := Heap.n_put
  generalize hG5 : G4.put BA (.cells [va']) = G5 at f5 g5 g5A n5
  have hw5 := f5.wf
  have z6 := fun {d : Nat} {k : K} => newReader_call (cp := cp) (fuel := fuel) (d := d) (k := k) (l := s) T hw5 (by omega)
  have f6 : Fresh G5 ((G5.new (.bytes s.length (enc s))).new (rdBlk G5.n s 0)) := (Fresh.new hw5).trans (Fresh.new (by rw [Heap.wf_new]; exact hw5))
  have g6r : ((G5.new (.bytes s.length (enc s))).new (rdBlk G5.n s 0)).get (G5.n + 1) = rdBlk G5.n s 0 := by rw [Heap.get_new (by rw [Heap.wf_new]; exact hw5), if_pos (by rw [Heap.n_new])]
  have g6b : ((G5.new (.bytes s.length (enc s))).new (rdBlk G5.n s 0)).get G5.n = .bytes s.length (enc s) := by rw [Heap.get_new (by rw [Heap.wf_new]; exact hw5), if_neg (by rw [Heap.n_new]; omega), Heap.get_new hw5, if_pos rfl]
  have n6 : ((G5.new (.bytes s.length (enc s))).new (rdBlk G5.n s 0)).n = G5.n + 1 + 1 := by simp only [Heap.n_new]
  generalize hG6 : (G5.new (.bytes s.length (enc s))).new (rdBlk G5.n s 0) = G6 at z6 f6 g6r g6b n6
  have hall : ∀ i, i < G.n → i ≠ BA → i ≠ BE → Off va i → G6.get i = G.get i := fun i h1 h2 h3 h4 => by
    rw [f6.same i (by omega), g5 i h2, k4 i (by omega) h4, f3.same i (by omega), g2, f1.same i h1]
  refine ⟨G6, G5.n + 1, va', fun d k => ?_, f5.trans f6, ⟨G5.n, g6r, by omega, g6b, by omega, by omega⟩, by omega, (f6.same BA (by omega)).trans g5A, ?_, ?_, hall, by omega, fun i hi => o4 i (by omega)⟩
  · have hsn := fun {id : Nat} {g : Nat → R} => hg.sn (id := id) (f := g)
    have hi' := fun {id : Nat} {k : R} => is1_of hg4.one (id := id) (k := k)
    have hi := fun {id : Nat} {k : R} => is1_of hg.one (id := id) (k := k)
    have z1' := fun {d : Nat} {k : K} => z1 d k
    have z6' := fun {d : Nat} {k : K} => z6 (d := d + 2) (k := k)
    have e1 : j < 9223372036854775808 := by omega
    have e2 : (145 + j) % 18446744073709551616 = 145 + j := by omega
    have e3 : BE < G1.n := by omega
    have e4 : BA < G4.n := by omega
    have gE2 : G2.get BE = .cells [.int 3 0] := (g2 BE).trans gE1
    have gA2 : G2.get BA = .cells [va] := (g2 BA).trans gA1
    simp only [sv, tx] at z1'
    simp only [tv] at z6' hop
    rw [call_entry T.k76 rfl rfl]
    simp only [go_sem, reduceCtorEq, Nat.reduceAdd, Nat.reduceSub, Nat.reduceMul, Nat.reduceDiv, Nat.reduceMod, ↓reduceIte, c76, gD, gA, ↓hsn, e1, e2, z1', hw1, gE1, e3, hG2, gE2, gA2, hw2, ↓hop, hi, hi', gA4, hw4, e4, hG5, z6']
  · rw [f6.same BE (by omega), g5 BE (Ne.symm x1), k4 BE (by omega) oE, f3.same BE (by omega), g2]; exact gE1
  · obtain ⟨q1, q2, q3 | ⟨b, c, z, q3, q4, q5, q6, q7, q8⟩⟩ := hg4
    · exact ⟨q1, q2, Or.inl q3⟩
    · have hb : BA ≠ b := o4 BA (by omega) b 0 (j + 1) c z q3
      exact ⟨q1, q2, Or.inr ⟨b, c, z, q3, q4, q5, by rw [f6.same b (by omega), g5 b (Ne.symm hb)]; exact q6, q7, by omega⟩⟩
end
end Go.Ev
end
section
namespace Go.Ev
structure RdS (H G : Heap) (dp BD BA BE BH term voted : Nat) (va vl : V) (ss : List V) (es : List Ent) : Prop where
  f : Fresh H G
  gD : G.get BD = .cells [.ptr dp 0]
  gA : G.get BA = .cells [va]
  gE : G.get BE = .cells [.int 3 0]
  gH : G.get BH = .cells [.int 7 term, .int 3 voted, vl]
  nD : BD < G.n
  nA : BA < G.n
  nE : BE < G.n
  nH : BH < G.n
  ga : Gr H G va 1 ss.length ss
  gl : Gr H G vl 4 es.length (encEnt es)
  oa : ∀ i, i = BD ∨ i = BA ∨ i = BE ∨ i = BH → Off va i
  ol : ∀ i, i = BD ∨ i = BA ∨ i = BE ∨ i = BH → Off vl i
  al : ∀ b o n c s, vl = .slice b o n c s → Off va b
theorem enT_drop (e : Ent) : ∃ r1 r2 r3 r4, (enT e).drop 0 = pnum e.1 ++ r1 ∧ (enT e).drop (0 + (pnum e.1).length) = pnum e.2.1 ++ r2 ∧ (enT e).drop (0 + (pnum e.1).length + (pnum e.2.1).length) = pnum e.2.2.1 ++ r3 ∧ (enT e).drop (0 + (pnum e.1).length + (pnum e.2.1).length + (pnum e.2.2.1).length) = pnum e.2.2.2 ++ r4 := by
  have h : enT e = pnum e.1 ++ (pnum e.2.1 ++ (pnum e.2.2.1 ++ (pnum e.2.2.2 ++ ([] ++ List.replicate (32 - (nums [e.1, e.2.1, e.2.2.1, e.2.2.2]).length) 0)))) := by
    unfold enT sec
    have : nums [e.1, e.2.1, e.2.2.1, e.2.2.2] = pnum e.1 ++ (pnum e.2.1 ++ (pnum e.2.2.1 ++ (pnum e.2.2.2 ++ []))) := rfl
    conv => lhs; rw [this]
    simp only [List.append_assoc, this]
  generalize hr : ([] ++ List.replicate (32 - (nums [e.1, e.2.1, e.2.2.1, e.2.2.2]).length) (0 : UInt8)) = rr at h
  refine ⟨pnum e.2.1 ++ (pnum e.2.2.1 ++ (pnum e.2.2.2 ++ rr)), pnum e.2.2.1 ++ (pnum e.2.2.2 ++ rr), pnum e.2.2.2 ++ rr, rr, by rw [List.drop_zero]; exact h, ?_, ?_, ?_⟩
  · rw [h, Nat.zero_add, List.drop_left]
  · rw [h, Nat.zero_add, ← List.drop_drop, List.drop_left, List.drop_left]
  · rw [h, Nat.zero_add, ← List.drop_drop, ← List.drop_drop, List.drop_left, List.drop_left, List.drop_left]
theorem min_un {k : Nat} (h : k ≤ 3) : mmN false 0 18446744073709551616 k 4 = k := by
  unfold mmN
  rw [if_neg (by decide), Nat.add_zero, Nat.add_zero, Nat.mod_eq_of_lt (by omega), Nat.mod_eq_of_lt (by omega)]
  split <;> omega
section
variable {cp : RC → CodeE} {t : Nat → Option FnE} {fuel : Nat} {H : Heap}
theorem entry_steps (T : TCode t) {G1 : Heap} {r : Nat} {e : Ent} (f : Fresh H G1) (hr : RdAt G1 r (enT e) 0) (hrH : H.n ≤ r) (ho : okE e) (hk : e.2.1 ≤ 3) (hfu : 8 < fuel) :
    ∃ G2 G4 G6 G8, (∀ (d : Nat) (k : K), callP (evP cp t fuel (d + 2)) (.func 157 [.ptr r 0]) [] G1 k = k (.int 7 e.1) G2) ∧ G2.wf ∧ G2.n = G1.n ∧
      (∀ (d : Nat) (k : K), callP (evP cp t fuel (d + 2)) (.func 157 [.ptr r 0]) [] ((G2.new (.cells [.int 7 0, .int 3 0, .int 7 0, .int 7 0])).put G2.n (.cells [.int 7 e.1, .int 3 0, .int 7 0, .int 7 0])) k = k (.int 7 e.2.1) G4) ∧ G4.wf ∧ G4.n = G2.n + 1 ∧ G4.get G2.n = .cells [.int 7 e.1, .int 3 0, .int 7 0, .int 7 0] ∧
      (∀ (d : Nat) (k : K), callP (evP cp t fuel (d + 2)) (.func 157 [.ptr r 0]) [] (G4.put G2.n (.cells [.int 7 e.1, .int 3 e.2.1, .int 7 0, .int 7 0])) k = k (.int 7 e.2.2.1) G6) ∧ G6.wf ∧ G6.n = G2.n + 1 ∧ G6.get G2.n = .cells [.int 7 e.1, .int 3 e.2.1, .int 7 0, .int 7 0] ∧
      (∀ (d : Nat) (k : K), callP (evP cp t fuel (d + 2)) (.func 157 [.ptr r 0]) [] (G6.put G2.n (.cells [.int 7 e.1, .int 3 e.2.1, .int 7 e.2.2.1, .int 7 0])) k = k (.int 7 e.2.2.2) G8) ∧ G8.wf ∧ G8.n = G2.n + 1 ∧ G8.get G2.n = .cells [.int 7 e.1, .int 3 e.2.1, .int 7 e.2.2.1, .int 7 0] ∧
      Fresh H (G8.put G2.n (.cells (encEnt1 e))) ∧ (∀ j, j < G1.n → j ≠ r → (G8.put G2.n (.cells (encEnt1 e))).get j = G1.get j) ∧ (G8.put G2.n (.cells (encEnt1 e))).get G2.n = .cells (encEnt1 e) ∧ (∃ pos, RdAt (G8.put G2.n (.cells (encEnt1 e))) r (enT e) pos) := by
  obtain ⟨r1, r2, r3, r4, d1, d2, d3, d4⟩ := enT_drop e
  have hlen : (enT e).length < 1000000 := by rw [show (enT e).length = 32 from sec_length (en32 (by omega))]; omega
  have hrn : r < G1.n := let ⟨_, _, h, _⟩ := hr; h
  obtain ⟨G2, z2, q2, f2, s2, n2⟩ := num_step (cp := cp) (fuel := fuel) T f hr hrH hlen ho.1 d1 hfu
  have hHn := f.n
  have w2 := f2.wf
  -- the entry's cell
  have f3 : Fresh H ((G2.new (.cells [.int 7 0, .int 3 0, .int 7 0, .int 7 0])).put G2.n (.cells [.int 7 e.1, .int 3 0, .int 7 0, .int 7 0])) := (f2.trans (Fresh.new w2)).put (by omega) (by rw [Heap.n_new]; omega)
  have n3 : ((G2.new (.cells [.int 7 0, .int 3 0, .int 7 0, .int 7 0])).put G2.n (.cells [.int 7 e.1, .int 3 0, .int 7 0, .int 7 0])).n = G2.n + 1 := by rw [Heap.n_put, Heap.n_new]
  have g3 : ((G2.new (.cells [.int 7 0, .int 3 0, .int 7 0, .int 7 0])).put G2.n (.cells [.int 7 e.1, .int 3 0, .int 7 0, .int 7 0])).get G2.n = .cells [.int 7 e.1, .int 3 0, .int 7 0, .int 7 0] := by rw [Heap.get_put (by rw [Heap.wf_new]; exact w2) (by rw [Heap.n_new]; omega), if_pos rfl]
  have s3 : ∀ j, j < G2.n → ((G2.new (.cells [.int 7 0, .int 3 0, .int 7 0, .int 7 0])).put G2.n (.cells [.int 7 e.1, .int 3 0, .int 7 0, .int 7 0])).get j = G2.get j := fun j hj => by rw [Heap.get_put (by rw [Heap.wf_new]; exact w2) (by rw [Heap.n_new]; omega), if_neg (by omega), Heap.get_new w2, if_neg (by omega)]
  generalize hG3 : (G2.new (.cells [.int 7 0, .int 3 0, .int 7 0, .int 7 0])).put G2.n (.cells [.int 7 e.1, .int 3 0, .int 7 0, .int 7 0]) = G3 at f3 n3 g3 s3
  obtain ⟨G4, z4, q4, f4, s4, n4⟩ := num_step (cp := cp) (fuel := fuel) T f3 (q2.same (by omega) fun j hj _ => s3 j hj) hrH hlen ho.2.1 d2 hfu
  have g4 := (s4 G2.n (by omega)).trans g3
  have w4 := f4.wf
  have put4 : ∀ (G : Heap) (x : Blk), Fresh H G → G.n = G2.n + 1 → Fresh H (G.put G2.n x) ∧ (G.put G2.n x).n = G2.n + 1 ∧ (G.put G2.n x).get G2.n = x ∧ ∀ j, j < G2.n → (G.put G2.n x).get j = G.get j := fun G x fG hn =>
    ⟨fG.put (by omega) (by omega), by rw [Heap.n_put]; exact hn, by rw [Heap.get_put fG.wf (by omega), if_pos rfl], fun j hj => by rw [Heap.get_put fG.wf (by omega), if_neg (by omega)]⟩
  obtain ⟨f5, n5, g5, s5⟩ := put4 G4 (.cells [.int 7 e.1, .int 3 e.2.1, .int 7 0, .int 7 0]) f4 (n4.trans n3)
  generalize hG5 : G4.put G2.n (.cells [.int 7 e.1, .int 3 e.2.1, .int 7 0, .int 7 0]) = G5 at f5 n5 g5 s5
  have rdn : ∀ {G G' : Heap} {pos : Nat}, RdAt G r (enT e) pos → G.n = G2.n + 1 → G'.n = G2.n + 1 → (∃ l, G.get G2.n = .cells l) → (∀ j, j < G2.n → G'.get j = G.get j) → RdAt G' r (enT e) pos := fun {G G' pos} hq hn hn' hx hs => hq.same (by omega) fun j hj hb => by
    by_cases h2 : j < G2.n
    · exact hs j h2
    · obtain ⟨l, hl⟩ := hx
      have : j = G2.n := by omega
      subst this
      rcases hb with ⟨y, hy⟩ | hy
      · rw [hl] at hy; cases hy
      · omega
  obtain ⟨G6, z6, q6, f6, s6, n6⟩ := num_step (cp := cp) (fuel := fuel) T f5 (rdn q4 (n4.trans n3) n5 ⟨_, g4⟩ s5) hrH hlen ho.2.2.1 d3 hfu
  have g6 := (s6 G2.n (by omega)).trans g5
  obtain ⟨f7, n7, g7, s7⟩ := put4 G6 (.cells [.int 7 e.1, .int 3 e.2.1, .int 7 e.2.2.1, .int 7 0]) f6 (n6.trans n5)
  generalize hG7 : G6.put G2.n (.cells [.int 7 e.1, .int 3 e.2.1, .int 7 e.2.2.1, .int 7 0]) = G7 at f7 n7 g7 s7
  obtain ⟨G8, z8, q8, f8, s8, n8⟩ := num_step (cp := cp) (fuel := fuel) T f7 (rdn q6 (n6.trans n5) n7 ⟨_, g6⟩ s7) hrH hlen ho.2.2.2 d4 hfu
  have g8 := (s8 G2.n (by omega)).trans g7
  obtain ⟨f9, n9, g9, s9⟩ := put4 G8 (.cells (encEnt1 e)) f8 (n8.trans n7)
  refine ⟨G2, G4, G6, G8, z2, w2, n2, by rw [hG3]; exact z4, w4, n4.trans n3, g4, by rw [hG5]; exact z6, f6.wf, n6.trans n5, g6, by rw [hG7]; exact z8, f8.wf, n8.trans n7, g8, f9, fun j hj hjr => ?_, g9, ⟨_, rdn q8 (n8.trans n7) n9 ⟨_, g8⟩ s9⟩⟩
  rw [s9 j (by omega), s8 j hjr, s7 j (by omega), s6 j hjr, s5 j (by omega), s4 j hjr, s3 j (by omega), s2 j hjr]
end
end Go.Ev
end
section
namespace Go.Ev
theorem Gr.same {H G G' : Heap} {v : V} {size n : Nat} {row : List V} (h : Gr H G v size n row) (hn : G.n ≤ G'.n) (hs : ∀ b o l c s, v = .slice b o l c s → b < G.n → G'.get b = G.get b) : Gr H G' v size n row := by
  obtain ⟨h1, h2, h | ⟨b, c, s, g1, g2, g3, g4, g5, g6⟩⟩ := h
  · exact ⟨h1, h2, Or.inl h⟩
  · exact ⟨h1, h2, Or.inr ⟨b, c, s, g1, g2, g3, (hs _ _ _ _ _ g1 g6).trans g4, g5, by omega⟩⟩
theorem Gr.blk {H G : Heap} {v : V} {size n : Nat} {row : List V} (h : Gr H G v size n row) {b o l c s : Nat} (hv : v = .slice b o l c s) : b < G.n ∧ G.get b = .cells row := by
  obtain ⟨h1, h2, h | ⟨b', c', s', g1, g2, g3, g4, g5, g6⟩⟩ := h
  · rw [hv] at h; cases h.1
  · rw [hv] at g1; cases g1; exact ⟨g6, g4⟩
theorem encEnt_step {es : List Ent} {i : Nat} {e : Ent} (h : es[i]? = some e) : encEnt (es.take (i + 1)) = encEnt (es.take i) ++ encEnt1 e := by
  obtain ⟨hi, rfl⟩ := List.getElem?_eq_some_iff.1 h
  unfold encEnt
  rw [List.take_succ_eq_append_getElem hi, List.flatMap_append]
  simp only [List.flatMap_cons, List.flatMap_nil, List.append_nil]
section
variable {cp : RC → CodeE} {t : Nat → Option FnE} {fuel : Nat} {H : Heap}
set_option maxHeartbeats 2000000 in
theorem read_loop (T : TCode t) (hc : HasClone t) {dp BD BA BE BH term voted : Nat} {A : AD} {O : Nat → Prop} {es : List Ent} {h0 : List UInt8} (hD : Disk H dp A O) (ho : A.off = false) (hlA : 145 + es.length < A.len) (hA : A.len ≤ 1024) (hsec : ∀ i e, es[i]? = some e → A.read (146 + i) = tx (enT e)) (hok : ∀ e ∈ es, okE e ∧ e.2.1 ≤ 3)
    (bA : H.n ≤ BA) (bE : H.n ≤ BE) (bH : H.n ≤ BH) (x1 : BA ≠ BE) (x2 : BD ≠ BA) (x3 : BD ≠ BE) (x4 : BH ≠ BA) (x5 : BH ≠ BE) (x6 : BH ≠ BD) (hfu : 8 < fuel) :
    ∀ (m i : Nat) (G : Heap) (va vl : V), i + m = es.length → RdS H G dp BD BA BE BH term voted va vl (secs h0 (es.take i)) (es.take i) →
    ∃ G' va' vl', RdS H G' dp BD BA BE BH term voted va' vl' (secs h0 es) es ∧ ∀ (d : Nat) (kx : Nat → KE) (rr : Nat) (e : Env), m < rr → pget ⟨.i0, .i0, .i2⟩ e = .ptr BH 0 → pget ⟨.i0, .i0, .i3⟩ e = .ptr BA 0 → pget ⟨.i0, .i0, .i4⟩ e = .ptr BE 0 → pget ⟨.i0, .i0, .i5⟩ e = .func 152 [.ptr BD 0, .ptr BA 0, .ptr BE 0] → pget ⟨.i0, .i1, .i1⟩ e = .int 7 es.length →
      ∀ x : R, (∀ e', pget ⟨.i0, .i0, .i2⟩ e' = .ptr BH 0 → pget ⟨.i0, .i0, .i3⟩ e' = .ptr BA 0 → pget ⟨.i0, .i0, .i4⟩ e' = .ptr BE 0 → kx 1 e' G' = x) →
      evL c40l0 fuel (evP cp t fuel (d + 4)) kx rr e G = x := by
  intro m
  induction m with
  | zero =>
    intro i G va vl hi S
    obtain rfl : i = es.length := by omega
    rw [List.take_length] at S
    refine ⟨G, va, vl, S, fun d kx rr e hr h2 h3 h4 h5 h11 x hT => ?_⟩
    obtain ⟨rr, rfl⟩ : ∃ q, rr = q + 1 := ⟨rr - 1, by omega⟩
    have hsl : (secs h0 es).length = 1 + es.length := by simp [secs]; omega
    have hsn := fun {id : Nat} {g : Nat → R} => S.ga.sn (id := id) (f := g)
    rw [hsl] at hsn
    have gE := S.gE
    have gA := S.gA
    have e1 : 1 + es.length < 9223372036854775808 := by omega
    have e2 : nn (1 + es.length) := by unfold nn; omega
    have e3 : nn es.length := by unfold nn; omega
    have e4 : ¬ 1 + es.length ≤ es.length := by omega
    have e5 : es.length % 18446744073709551616 = es.length := by omega
    rw [evL_succ]
    simp only [go_sem, reduceCtorEq, ↓reduceIte, c40l0, h2, h3, h4, h5, h11, gE, gA, ↓hsn, e1, e2, e3, e4, e5]
    exact hT _ (by simp only [go_sem, reduceCtorEq, ↓reduceIte, h2]) (by simp only [go_sem, reduceCtorEq, ↓reduceIte, h3]) (by simp only [go_sem, reduceCtorEq, ↓reduceIte, h4])
  | succ m ih =>
    intro i G va vl hi S
    have hlt : i < es.length := by omega
    have hget : es[i]? = some es[i] := List.getElem?_eq_getElem hlt
    generalize es[i] = en at hget
    obtain ⟨oke, ke⟩ := hok en (List.mem_of_getElem? hget)
    have htl : (es.take i).length = i := by rw [List.length_take]; omega
    have hsl : (secs h0 (es.take i)).length = 1 + i := by simp [secs, htl]; omega
    have hga : Gr H G va 1 (1 + i) (secs h0 (es.take i)) := by have := S.ga; rwa [hsl] at this
    have hgl : Gr H G vl 4 i (encEnt (es.take i)) := by have := S.gl; rwa [htl] at this
    have hfn := S.f.n
    have nD := S.nD
    have nA := S.nA
    have nE := S.nE
    have nH := S.nH
    obtain ⟨G1, r, va', z0, f1, hR, hr1, gA1, gE1, hga1, k1, n1, o1⟩ := next_call (cp := cp) (fuel := fuel) (j := 1 + i) (s := enT en) T hc S.f hD ho (by omega) hA (by rw [show 145 + (1 + i) = 146 + i by omega]; exact hsec i en hget) (sec_length (en32 (by omega))) S.gD S.gA S.gE bA bE nD nA nE x1 x2 x3 hga (S.oa BD (by simp)) (S.oa BA (by simp)) (S.oa BE (by simp))
    obtain ⟨G2, G4, G6, G8, z2, w2, m2, z4, w4, m4, g4, z6, w6, m6, g6, z8, w8, m8, g8, f9, s9, g9, pos, q9⟩ := entry_steps (cp := cp) (fuel := fuel) T f1 hR (by omega) oke ke hfu
    have m9 : (G8.put G2.n (.cells (encEnt1 en))).n = G2.n + 1 := by rw [Heap.n_put]; exact m8
    generalize hG9 : G8.put G2.n (.cells (encEnt1 en)) = G9 at f9 s9 g9 q9 m9
    have s9' : ∀ j, j < G.n → j ≠ BA → j ≠ BE → Off va j → G9.get j = G.get j := fun j h1 h2 h3 h4 => (s9 j (by omega) (by omega)).trans (k1 j h1 h2 h3 h4)
    have w9 := f9.wf
    have gA9 : G9.get BA = .cells [va'] := (s9 BA (by omega) (by omega)).trans gA1
    have gE9 : G9.get BE = .cells [.int 3 0] := (s9 BE (by omega) (by omega)).trans gE1
    have gD9 : G9.get BD = .cells [.ptr dp 0] := (s9' BD nD x2 x3 (S.oa BD (by simp))).trans S.gD
    have gH9 : G9.get BH = .cells [.int 7 term, .int 3 voted, vl] := (s9' BH nH x4 x5 (S.oa BH (by simp))).trans S.gH
    have hgl9 : Gr H G9 vl 4 i (encEnt (es.take i)) := hgl.same (by omega) fun b o l c s hv hb => s9' b hb (fun h => S.ol BA (by simp) b o l c s hv h.symm) (fun h => S.ol BE (by simp) b o l c s hv h.symm) (S.al b o l c s hv)
    have hga9 : Gr H G9 va' 1 (1 + i + 1) (secs h0 (es.take i) ++ [tv (enT en)]) := hga1.same (by omega) fun b o l c s hv hb => s9 b hb (fun h => by
      obtain ⟨_, hx⟩ := hga1.blk hv
      obtain ⟨b', y1, y2, y3, _⟩ := hR
      rw [h, y1] at hx
      unfold rdBlk at hx
      simp only [Blk.cells.injEq] at hx
      have hlen := congrArg List.length hx
      have := hga1.1
      have hl2 : (secs h0 (es.take i) ++ [tv (enT en)]).length = 2 + i := by simp [hsl]; omega
      rw [hl2] at hlen
      have hlast := congrArg (fun l => l[0]?) hx
      simp [secs, tv] at hlast)
    -- the log
    have f10 : Fresh G9 (G9.new (.cells (encEnt1 en))) := Fresh.new w9
    have g10 : (G9.new (.cells (encEnt1 en))).get G9.n = .cells (encEnt1 en) := by rw [Heap.get_new w9, if_pos rfl]
    have m10 : (G9.new (.cells (encEnt1 en))).n = G9.n + 1 := Heap.n_new
    have hgl10 : Gr H (G9.new (.cells (encEnt1 en))) vl 4 i (encEnt (es.take i)) := hgl9.same (by omega) fun b o l c s hv hb => f10.same b hb
    obtain ⟨vl', G11, hop, hgl11, f11, k11, m11, o11⟩ := Gr.app (cx := 2) (sx := 0) (f9.trans f10) hgl10 g10 rfl (by simp [encEnt1, V.one]) (by omega)
    have w11 := f11.wf
    have k11' : ∀ j, j < G9.n → Off vl j → G11.get j = G9.get j := fun j h1 h2 => (k11 j (by omega) h2).trans (f10.same j h1)
    have gH11 : G11.get BH = .cells [.int 7 term, .int 3 voted, vl] := (k11' BH (by omega) (S.ol BH (by simp))).trans gH9
    have f12 : Fresh H (G11.put BH (.cells [.int 7 term, .int 3 voted, vl'])) := f11.put bH (by omega)
    have g12 : ∀ j, j ≠ BH → (G11.put BH (.cells [.int 7 term, .int 3 voted, vl'])).get j = G11.get j := fun j hj => by rw [Heap.get_put w11 (by omega), if_neg hj]
    have g12H : (G11.put BH (.cells [.int 7 term, .int 3 voted, vl'])).get BH = .cells [.int 7 term, .int 3 voted, vl'] := by rw [Heap.get_put w11 (by omega), if_pos rfl]
    have m12 : (G11.put BH (.cells [.int 7 term, .int 3 voted, vl'])).n = G11.n := Heap.n_put
    generalize hG12 : G11.put BH (.cells [.int 7 term, .int 3 voted, vl']) = G12 at f12 g12 g12H m12
    have olA : Off vl BA := S.ol BA (by simp)
    have olE : Off vl BE := S.ol BE (by simp)
    have olD : Off vl BD := S.ol BD (by simp)
    have htl' : (es.take (i + 1)).length = i + 1 := by rw [List.length_take]; omega
    have hss : secs h0 (es.take i) ++ [tv (enT en)] = secs h0 (es.take (i + 1)) := by
      unfold secs
      rw [take_step' (fun e => tv (enT e)) hget]; rfl
    have hsl' : (secs h0 (es.take (i + 1))).length = 1 + i + 1 := by rw [← hss]; simp [hsl]
    have S' : RdS H G12 dp BD BA BE BH term voted va' vl' (secs h0 (es.take (i + 1))) (es.take (i + 1)) := by
      refine ⟨f12, ?_, ?_, ?_, g12H, by omega, by omega, by omega, by omega, ?_, ?_, ?_, ?_, ?_⟩
      · rw [g12 BD (Ne.symm x6), k11' BD (by omega) olD]; exact gD9
      · rw [g12 BA (Ne.symm x4), k11' BA (by omega) olA]; exact gA9
      · rw [g12 BE (Ne.symm x5), k11' BE (by omega) olE]; exact gE9
      · rw [hsl', ← hss]
        refine hga9.same (by omega) fun b o l c s hv hb => ?_
        have hb1 := (hga1.blk hv).1
        rw [g12 b (fun h => o1 BH nH b o l c s hv h.symm), k11' b hb fun b' o' l' c' s' hv' h => ?_]
        subst h
        have hlt' := (hgl.blk hv').1
        exact o1 b hlt' b o l c s hv rfl
      · rw [htl', encEnt_step hget]
        refine hgl11.same (by omega) fun b o l c s hv hb => g12 b fun h => o11 BH (by omega) b o l c s hv h.symm
      · intro j hj
        have : j < G.n := by rcases hj with rfl | rfl | rfl | rfl <;> assumption
        exact o1 j this
      · intro j hj
        have : j < G.n := by rcases hj with rfl | rfl | rfl | rfl <;> assumption
        exact o11 j (by omega)
      · intro b o l c s hv b' o' l' c' s' hv' h
        subst h
        have := (hga9.blk hv').1
        exact o11 b (by omega) b o l c s hv rfl
    obtain ⟨G', va2, vl2, hS', hL⟩ := ih (i + 1) G12 va' vl' (by omega) S'
    refine ⟨G', va2, vl2, hS', fun d kx rr e hr h2 h3 h4 h5 h11 x hT => ?_⟩
    obtain ⟨rr, rfl⟩ : ∃ q, rr = q + 1 := ⟨rr - 1, by omega⟩
    have hsn := fun {id : Nat} {g : Nat → R} => hga.sn (id := id) (f := g)
    have hi1 := fun {id : Nat} {k : R} => is1_of hgl11.one (id := id) (k := k)
    have gE := S.gE
    have gA := S.gA
    have e1 : 1 + i < 9223372036854775808 := by omega
    have e2 : nn (1 + i) := by unfold nn; omega
    have e3 : nn es.length := by unfold nn; omega
    have e4 : 1 + i ≤ es.length := by omega
    have e5 : es.length % 18446744073709551616 = es.length := by omega
    have e6 : en.2.1 % 18446744073709551616 = en.2.1 := by omega
    have e7 := min_un ke
    have e8 : G2.n < G2.n + 1 := by omega
    have e9 : G2.n < G4.n := by omega
    have e10 : G2.n < G6.n := by omega
    have e11 : G2.n < G8.n := by omega
    have e12 : BH < G11.n := by omega
    have z0' := fun {k : K} => z0 d k
    have z2' := fun {k : K} => z2 (d + 2) k
    have z4' := fun {k : K} => z4 (d + 2) k
    have z6' := fun {k : K} => z6 (d + 2) k
    have z8' := fun {k : K} => z8 (d + 2) k
    have zok := fun {k : K} => ok_step (cp := cp) (fuel := fuel) T q9 (d + 3) k
    simp only [encEnt1] at hG9 g9 hop
    rw [evL_succ]
    simp only [go_sem, reduceCtorEq, Nat.reduceAdd, Nat.reduceSub, Nat.reduceMul, Nat.reduceEqDiff, Nat.reduceLeDiff, Nat.reduceDiv, Nat.reduceMod, ↓reduceIte, c40l0, h2, h3, h4, h5, h11, gE, gA, ↓hsn, e1, e2, e3, e4, e5, z0', z2', w2, e8, z4', e7, e6, w4, g4, e9, z6', w6, g6, e10, z8', w8, g8, e11, hG9, gE9, zok, gH9, g9, w9, ↓hop, hi1, gH11, w11, e12, hG12]
    refine hL d kx rr _ (by omega) ?_ ?_ ?_ ?_ ?_ x hT
    · simp only [go_sem, reduceCtorEq, ↓reduceIte, h2]
    · simp only [go_sem, reduceCtorEq, ↓reduceIte, h3]
    · simp only [go_sem, reduceCtorEq, ↓reduceIte, h4]
    · simp only [go_sem, reduceCtorEq, ↓reduceIte, h5]
    · simp only [go_sem, reduceCtorEq, ↓reduceIte, h11]
end
end Go.Ev
end
section
namespace Go.Ev
theorem sec3_drop (a b c : Nat) : ∃ r1 r2 r3, (sec [a, b, c]).drop 0 = pnum a ++ r1 ∧ (sec [a, b, c]).drop (0 + (pnum a).length) = pnum b ++ r2 ∧ (sec [a, b, c]).drop (0 + (pnum a).length + (pnum b).length) = pnum c ++ r3 := by
  have hn : nums [a, b, c] = pnum a ++ (pnum b ++ (pnum c ++ [])) := rfl
  have h : sec [a, b, c] = pnum a ++ (pnum b ++ (pnum c ++ ([] ++ List.replicate (32 - (nums [a, b, c]).length) 0))) := by
    unfold sec
    conv => lhs; rw [hn]
    simp only [List.append_assoc, hn]
  generalize hr : ([] ++ List.replicate (32 - (nums [a, b, c]).length) (0 : UInt8)) = rr at h
  refine ⟨pnum b ++ (pnum c ++ rr), pnum c ++ rr, rr, by rw [List.drop_zero]; exact h, ?_, ?_⟩
  · rw [h, Nat.zero_add, List.drop_left]
  · rw [h, Nat.zero_add, ← List.drop_drop, List.drop_left, List.drop_left]
structure HasK (A : AD) (term voted : Nat) (es : List Ent) : Prop where
  lo : 446 ≤ A.len
  hi : A.len ≤ 1024
  head : A.read 145 = tx (hdT term voted es.length)
  ents : ∀ i e, es[i]? = some e → A.read (146 + i) = tx (enT e)
structure OkK (term voted : Nat) (es : List Ent) : Prop where
  t : term < 18446744073709551616
  v : voted < 18446744073709551616
  v3 : (voted + 1) % 18446744073709551616 ≤ 3
  n : es.length ≤ 300
  es : ∀ e ∈ es, okE e ∧ e.2.1 ≤ 3
section
variable {cp : RC → CodeE} {t : Nat → Option FnE} {fuel : Nat} {H : Heap}
set_option maxHeartbeats 2000000 in
theorem kread_call (T : TCode t) (hc : HasClone t) {dp term voted : Nat} {A : AD} {O : Nat → Prop} {es : List Ent} (hD : Disk H dp A O) (ho : A.off = false) (K : HasK A term voted es) (Y : OkK term voted es) (hfu : 100000 < fuel) :
    ∃ H' vl va, (∀ (d : Nat) (k : Go.Ev.K), callP (evP cp t fuel (d + 5)) (.func 80 []) [.ptr dp 0] H k = k (.tup [.agg [.int 7 term, .int 3 voted, vl], va, .int 3 0]) H') ∧ Fresh H H' ∧ LogN H H' vl es ∧ Gr H H' va 1 (1 + es.length) (secs (hdT term voted es.length) es) := by
  have hw := hD.wf
  obtain ⟨y1, y2, y3, y4, y5⟩ := Y
  obtain ⟨k1, k2, k3, k4⟩ := K
  -- the cells
  have f0 : Fresh H ((((H.new (.cells [.ptr dp 0])).new (.cells [.int 7 0, .int 3 0, .nils])).new (.cells [.nils])).new (.cells [.int 3 0])) := (((Fresh.new hw).trans (Fresh.new (by simp only [Heap.wf_new, hw]))).trans (Fresh.new (by simp only [Heap.wf_new, hw]))).trans (Fresh.new (by simp only [Heap.wf_new, hw]))
  have gD0 : ((((H.new (.cells [.ptr dp 0])).new (.cells [.int 7 0, .int 3 0, .nils])).new (.cells [.nils])).new (.cells [.int 3 0])).get H.n = .cells [.ptr dp 0] := by
    rw [Heap.get_new (by simp only [Heap.wf_new, hw]), if_neg (by simp only [Heap.n_new]; omega), Heap.get_new (by simp only [Heap.wf_new, hw]), if_neg (by simp only [Heap.n_new]; omega), Heap.get_new (by simp only [Heap.wf_new, hw]), if_neg (by simp only [Heap.n_new]; omega), Heap.get_new hw, if_pos rfl]
  have gH0 : ((((H.new (.cells [.ptr dp 0])).new (.cells [.int 7 0, .int 3 0, .nils])).new (.cells [.nils])).new (.cells [.int 3 0])).get (H.n + 1) = .cells [.int 7 0, .int 3 0, .nils] := by
    rw [Heap.get_new (by simp only [Heap.wf_new, hw]), if_neg (by simp only [Heap.n_new]; omega), Heap.get_new (by simp only [Heap.wf_new, hw]), if_neg (by simp only [Heap.n_new]; omega), Heap.get_new (by simp only [Heap.wf_new, hw]), if_pos (by simp only [Heap.n_new])]
  have gA0 : ((((H.new (.cells [.ptr dp 0])).new (.cells [.int 7 0, .int 3 0, .nils])).new (.cells [.nils])).new (.cells [.int 3 0])).get (H.n + 1 + 1) = .cells [.nils] := by
    rw [Heap.get_new (by simp only [Heap.wf_new, hw]), if_neg (by simp only [Heap.n_new]; omega), Heap.get_new (by simp only [Heap.wf_new, hw]), if_pos (by simp only [Heap.n_new])]
  have gE0 : ((((H.new (.cells [.ptr dp 0])).new (.cells [.int 7 0, .int 3 0, .nils])).new (.cells [.nils])).new (.cells [.int 3 0])).get (H.n + 1 + 1 + 1) = .cells [.int 3 0] := by
    rw [Heap.get_new (by simp only [Heap.wf_new, hw]), if_pos (by simp only [Heap.n_new])]
  have n0 : ((((H.new (.cells [.ptr dp 0])).new (.cells [.int 7 0, .int 3 0, .nils])).new (.cells [.nils])).new (.cells [.int 3 0])).n = H.n + 1 + 1 + 1 + 1 := by simp only [Heap.n_new]
  generalize hG0 : (((H.new (.cells [.ptr dp 0])).new (.cells [.int 7 0, .int 3 0, .nils])).new (.cells [.nils])).new (.cells [.int 3 0]) = G0 at f0 gD0 gH0 gA0 gE0 n0
  have off0 : ∀ i, Off .nils i := fun i b o n c s h => by cases h
  -- the first sector
  obtain ⟨G1, r, va, z1, f1, hR, hr1, gA1, gE1, hga1, s1, n1, o1⟩ := next_call (cp := cp) (fuel := fuel) (j := 0) (BD := H.n) (BA := H.n + 1 + 1) (BE := H.n + 1 + 1 + 1) (s := hdT term voted es.length) T hc f0 hD ho (by omega) k2 k3 (sec_length (hd32 _ _ _)) gD0 gA0 gE0 (by omega) (by omega) (by omega) (by omega) (by omega) (by omega) (by omega) (by omega) Gr.nils (off0 _) (off0 _) (off0 _)
  have hlen : (hdT term voted es.length).length < 1000000 := by rw [show (hdT term voted es.length).length = 32 from sec_length (hd32 _ _ _)]; omega
  obtain ⟨r1, r2, r3, d1, d2, d3⟩ := sec3_drop term ((voted + 1) % 18446744073709551616) es.length
  have gH1 : G1.get (H.n + 1) = .cells [.int 7 0, .int 3 0, .nils] := (s1 _ (by omega) (by omega) (by omega) (off0 _)).trans gH0
  have gD1 : G1.get H.n = .cells [.ptr dp 0] := (s1 _ (by omega) (by omega) (by omega) (off0 _)).trans gD0
  have hrn1 : r < G1.n := let ⟨_, _, h, _⟩ := hR; h
  obtain ⟨G2, z2, q2, f2, s2, n2⟩ := num_step (cp := cp) (fuel := fuel) T f1 hR (by omega) hlen y1 d1 (by omega)
  have gH2 : G2.get (H.n + 1) = .cells [.int 7 0, .int 3 0, .nils] := (s2 _ (by omega)).trans gH1
  have w2 := f2.wf
  have f3 : Fresh H (G2.put (H.n + 1) (.cells [.int 7 term, .int 3 0, .nils])) := f2.put (by omega) (by omega)
  have s3 : ∀ j, j ≠ H.n + 1 → (G2.put (H.n + 1) (.cells [.int 7 term, .int 3 0, .nils])).get j = G2.get j := fun j hj => by rw [Heap.get_put w2 (by omega), if_neg hj]
  have g3 : (G2.put (H.n + 1) (.cells [.int 7 term, .int 3 0, .nils])).get (H.n + 1) = .cells [.int 7 term, .int 3 0, .nils] := by rw [Heap.get_put w2 (by omega), if_pos rfl]
  have n3 : (G2.put (H.n + 1) (.cells [.int 7 term, .int 3 0, .nils])).n = G2.n := Heap.n_put
  generalize hG3 : G2.put (H.n + 1) (.cells [.int 7 term, .int 3 0, .nils]) = G3 at f3 s3 g3 n3
  have q3 : RdAt G3 r (hdT term voted es.length) (0 + (pnum term).length) := q2.same (by omega) fun j hj hb => s3 j fun h => by
    subst h
    rcases hb with ⟨x, hb⟩ | hb
    · rw [gH2] at hb; cases hb
    · omega
  obtain ⟨G4, z4, q4, f4, s4, n4⟩ := num_step (cp := cp) (fuel := fuel) T f3 q3 (by omega) hlen (by omega) d2 (by omega)
  obtain ⟨G5, z5, q5, f5, s5, n5⟩ := num_step (cp := cp) (fuel := fuel) T f4 q4 (by omega) hlen (by omega) d3 (by omega)
  have s15 : ∀ j, j < G1.n → j ≠ r → j ≠ H.n + 1 → G5.get j = G1.get j := fun j h1 h2 h3 => by rw [s5 j h2, s4 j h2, s3 j h3, s2 j h2]
  have gE5 : G5.get (H.n + 1 + 1 + 1) = .cells [.int 3 0] := (s15 _ (by omega) (by omega) (by omega)).trans gE1
  have gA5 : G5.get (H.n + 1 + 1) = .cells [va] := (s15 _ (by omega) (by omega) (by omega)).trans gA1
  have gD5 : G5.get H.n = .cells [.ptr dp 0] := (s15 _ (by omega) (by omega) (by omega)).trans gD1
  have gH5 : G5.get (H.n + 1) = .cells [.int 7 term, .int 3 0, .nils] := by rw [s5 _ (by omega), s4 _ (by omega)]; exact g3
  have w5 := f5.wf
  have f6 : Fresh H (G5.put (H.n + 1) (.cells [.int 7 term, .int 3 voted, .nils])) := f5.put (by omega) (by omega)
  have s6 : ∀ j, j ≠ H.n + 1 → (G5.put (H.n + 1) (.cells [.int 7 term, .int 3 voted, .nils])).get j = G5.get j := fun j hj => by rw [Heap.get_put w5 (by omega), if_neg hj]
  have g6 : (G5.put (H.n + 1) (.cells [.int 7 term, .int 3 voted, .nils])).get (H.n + 1) = .cells [.int 7 term, .int 3 voted, .nils] := by rw [Heap.get_put w5 (by omega), if_pos rfl]
  have n6 : (G5.put (H.n + 1) (.cells [.int 7 term, .int 3 voted, .nils])).n = G5.n := Heap.n_put
  generalize hG6 : G5.put (H.n + 1) (.cells [.int 7 term, .int 3 voted, .nils]) = G6 at f6 s6 g6 n6
  have hga6 : Gr H G6 va 1 (0 + 1) ([] ++ [tv (hdT term voted es.length)]) := hga1.same (by omega) fun b o l c s hv hb => by
    have hx := (hga1.blk hv).2
    have h1 : b ≠ H.n + 1 := fun h => by rw [h, gH1] at hx; simp [tv] at hx
    have h2 : b ≠ r := fun h => by
      obtain ⟨b', y1, _⟩ := hR
      rw [h, y1] at hx; unfold rdBlk at hx; simp [tv] at hx
    rw [s6 b h1, s15 b hb h2 h1]
  have offA : ∀ i, i < G0.n → Off va i := o1
  have S : RdS H G6 dp H.n (H.n + 1 + 1) (H.n + 1 + 1 + 1) (H.n + 1) term voted va .nils (secs (hdT term voted es.length) (es.take 0)) (es.take 0) := by
    refine ⟨f6, by rw [s6 _ (by omega)]; exact gD5, by rw [s6 _ (by omega)]; exact gA5, by rw [s6 _ (by omega)]; exact gE5, g6, by omega, by omega, by omega, by omega, by simpa [secs] using hga6, by rw [List.take_zero]; exact Gr.nils, fun i hi => offA i (by omega), fun i hi => off0 i, fun b o n c s h => by cases h⟩
  obtain ⟨G7, va', vl, S7, hL⟩ := read_loop (cp := cp) (fuel := fuel) (h0 := hdT term voted es.length) T hc hD ho (by omega) k2 k4 y5 (by omega) (by omega) (by omega) (by omega) (by omega) (by omega) (by omega) (by omega) (by omega) (by omega) es.length 0 G6 va .nils (by omega) S
  have hsl : (secs (hdT term voted es.length) es).length = 1 + es.length := by simp [secs]; omega
  refine ⟨G7, vl, va', fun d k => ?_, S7.f, ?_, by have := S7.ga; rwa [hsl] at this⟩
  · have z1' := fun {k : Go.Ev.K} => z1 d k
    have z2' := fun {k : Go.Ev.K} => z2 (d + 2) k
    have z4' := fun {k : Go.Ev.K} => z4 (d + 2) k
    have z5' := fun {k : Go.Ev.K} => z5 (d + 2) k
    have zok := fun {k : Go.Ev.K} => ok_step (cp := cp) (fuel := fuel) T q5 (d + 3) k
    have e1 : H.n + 1 < G2.n := by omega
    have e2 : H.n + 1 < G5.n := by omega
    have e3 := gt_un (a := (voted + 1) % 18446744073709551616) (b := 3) (by omega) (by omega)
    have e4 := gt_un (a := es.length) (b := 300) (by omega) (by omega)
    have e5 : ¬ 3 < (voted + 1) % 18446744073709551616 := by omega
    have e6 : ¬ 300 < es.length := by omega
    have e7 : ((voted + 1) % 18446744073709551616 + 18446744073709551615) % 18446744073709551616 = voted := by omega
    have gH7 := S7.gH
    have gA7 := S7.gA
    have gE7 := S7.gE
    rw [call_entry T.k40 rfl rfl]
    simp only [go_sem, ↓op_app, reduceCtorEq, Nat.reduceAdd, Nat.reduceSub, Nat.reduceMul, Nat.reduceEqDiff, Nat.reduceLT, Nat.reduceDiv, Nat.reduceMod, Nat.reduceLeDiff, ↓reduceIte, c40, hw, hG0, z1', z2', gH2, w2, e1, hG3, z4', z5', gE5, zok, e3, e4, e5, e6, Nat.mod_mod, e7, gH5, w5, e2, hG6]
    refine hL d _ fuel _ (by omega) ?_ ?_ ?_ ?_ ?_ _ (fun e' h2 h3 h4 => ?_)
    · simp only [go_sem, reduceCtorEq, ↓reduceIte]
    · simp only [go_sem, reduceCtorEq, ↓reduceIte]
    · simp only [go_sem, reduceCtorEq, ↓reduceIte]
    · simp only [go_sem, reduceCtorEq, ↓reduceIte]
    · simp only [go_sem, reduceCtorEq, ↓reduceIte]
    simp only [go_sem, ↓op_app, reduceCtorEq, Nat.reduceAdd, Nat.reduceSub, Nat.reduceMul, Nat.reduceEqDiff, Nat.reduceLT, Nat.reduceDiv, Nat.reduceMod, Nat.reduceLeDiff, ↓reduceIte, retF_read, h2, h3, h4, gH7, gA7, gE7]
  · obtain ⟨q1, q2, ⟨q3, q4⟩ | ⟨b, c, s, q3, q4, q5, q6, q7, q8⟩⟩ := S7.gl
    · exact Or.inl ⟨q3, List.eq_nil_of_length_eq_zero q4⟩
    · exact Or.inr ⟨b, c, s, q3, q6, q7, q8⟩
end
end Go.Ev
end
section
namespace Go.Ev
section
variable {cp : RC → CodeE} {t : Nat → Option FnE} {fuel : Nat} {H : Heap}
theorem equal_loop {G : Heap} {a b ca cb sa sb n : Nat} {row : List V} (hw : G.wf) (ha : G.get a = .cells row) (hb : G.get b = .cells row) (hl : row.length = n) (hn : n < 1000000) (hs : ∀ v ∈ row, ∃ s, v = tv s) :
    ∀ (m i : Nat), i + m = n → ∀ (ph : Phi) (kx : Nat → KE) (r : Nat) (e : Env), m < r → pget ⟨.i0, .i0, .i0⟩ e = .slice a 0 n ca sa → pget ⟨.i0, .i0, .i1⟩ e = .slice b 0 n cb sb → pget ⟨.i0, .i1, .i4⟩ e = .int 3 n → pget ⟨.i0, .i1, .i5⟩ e = .int 3 i →
      ∀ x : R, (∀ e', kx 1 e' G = x) → evL c41l0 fuel ph kx r e G = x := by
  intro m
  induction m with
  | zero =>
    intro i hi ph kx r e hr h0 h1 h14 h15 x hT
    obtain ⟨r, rfl⟩ : ∃ q, r = q + 1 := ⟨r - 1, by omega⟩
    obtain rfl : i = n := by omega
    have e1 : ¬ i < i := by omega
    have e2 : nn i := by unfold nn; omega
    rw [evL_succ]
    simp only [go_sem, ↓op_app, reduceCtorEq, Nat.reduceAdd, Nat.reduceSub, Nat.reduceMul, Nat.reduceEqDiff, Nat.reduceLT, Nat.reduceDiv, Nat.reduceMod, Nat.reduceLeDiff, ↓reduceIte, c41l0, h0, h1, h14, h15, e1, e2]
    exact hT _
  | succ m ih =>
    intro i hi ph kx r e hr h0 h1 h14 h15 x hT
    obtain ⟨r, rfl⟩ : ∃ q, r = q + 1 := ⟨r - 1, by omega⟩
    have hlt : i < n := by omega
    have hg : row[i]? = some row[i] := List.getElem?_eq_getElem (by omega)
    obtain ⟨s, hv⟩ := hs row[i] (List.getElem_mem _)
    rw [hv] at hg
    have hrd : ∀ {id : Nat} {k : V → R}, nth id row i k = k (.str s.length (enc s)) := nth_get hg
    have e1 : nn i := by unfold nn; omega
    have e2 : nn n := by unfold nn; omega
    have e3 : i < 9223372036854775808 := by omega
    have e9 : (i + 1) % 18446744073709551616 = i + 1 := by omega
    rw [evL_succ]
    simp only [go_sem, ↓op_app, reduceCtorEq, Nat.reduceAdd, Nat.reduceSub, Nat.reduceMul, Nat.reduceEqDiff, Nat.reduceLT, Nat.reduceDiv, Nat.reduceMod, Nat.reduceLeDiff, ↓reduceIte, c41l0, h0, h1, h14, h15, hlt, e1, e2, e3, e9, ha, hb, hrd, hw, and_self]
    refine ih (i + 1) (by omega) ph kx r _ (by omega) ?_ ?_ ?_ ?_ x hT
    · simp only [go_sem, reduceCtorEq, ↓reduceIte, h0]
    · simp only [go_sem, reduceCtorEq, ↓reduceIte, h1]
    · simp only [go_sem, reduceCtorEq, ↓reduceIte, h14]
    · simp only [go_sem, reduceCtorEq, ↓reduceIte]
theorem equal_call (T : TCode t) {H0 G : Heap} {v w : V} {n : Nat} {row : List V} (hw : G.wf) (h1 : Gr H0 G v 1 (n + 1) row) (h2 : Gr H0 G w 1 (n + 1) row) (hn : n < 100000) (hs : ∀ v ∈ row, ∃ s, v = tv s) (hfu : 1000000 < fuel) (d : Nat) (k : K) :
    callP (evP cp t fuel (d + 1)) (.func 82 []) [v, w] G k = k (.bool true) G := by
  obtain ⟨q1, _, ⟨_, q⟩ | ⟨a, ca, sa, rfl, _, _, ga, _, _⟩⟩ := h1
  · omega
  obtain ⟨_, _, ⟨_, q⟩ | ⟨b, cb, sb, rfl, _, _, gb, _, _⟩⟩ := h2
  · omega
  have e1 : n + 1 < 9223372036854775808 := by omega
  rw [call_entry T.k41 rfl rfl]
  simp only [go_sem, ↓op_app, reduceCtorEq, Nat.reduceAdd, Nat.reduceSub, Nat.reduceMul, Nat.reduceEqDiff, Nat.reduceLT, Nat.reduceDiv, Nat.reduceMod, Nat.reduceLeDiff, ↓reduceIte, c41, e1]
  refine equal_loop (n := n + 1) (ca := ca) (cb := cb) (sa := sa) (sb := sb) hw ga gb (by omega) (by omega) hs (n + 1) 0 (by omega) _ _ fuel _ (by omega) ?_ ?_ ?_ ?_ _ (fun e' => ?_)
  · simp only [go_sem, reduceCtorEq, ↓reduceIte]
  · simp only [go_sem, reduceCtorEq, ↓reduceIte]
  · simp only [go_sem, reduceCtorEq, ↓reduceIte]
  · simp only [go_sem, reduceCtorEq, ↓reduceIte]
  simp only [go_sem, ↓op_app, reduceCtorEq, Nat.reduceAdd, Nat.reduceSub, Nat.reduceMul, Nat.reduceEqDiff, Nat.reduceLT, Nat.reduceDiv, Nat.reduceMod, Nat.reduceLeDiff, ↓reduceIte]
theorem secs_tv (h0 : List UInt8) (es : List Ent) : ∀ v ∈ secs h0 es, ∃ s, v = tv s := by
  intro v hv
  unfold secs at hv
  rcases List.mem_cons.1 hv with rfl | h
  · exact ⟨_, rfl⟩
  · obtain ⟨e, _, rfl⟩ := List.mem_map.1 h; exact ⟨_, rfl⟩
theorem open_call (T : TCode t) (hc : HasClone t) {pk : List UInt8 → List (List UInt8)} {unpk : List (List UInt8) → Option (List UInt8)} (F : FrameOK pk unpk) (hu : t 74 = some (.nat (nUnpack unpk)))
    {dp a n term voted : Nat} {A : AD} {O : Nat → Prop} {us : List Wr} {es : List Ent} (hD : Disk H dp A O) (C : CanRecover A pk a n us) (h0 : (A.recover n us).2 = 0) (ho : (A.recover n us).1.off = false) (K : HasK (A.recover n us).1 term voted es) (Y : OkK term voted es) (hm : mayK term voted es = true) (hfu : 1000000 < fuel) :
    ∃ H' O' kp vl, (∀ (d : Nat) (k : Go.Ev.K), callP (evP cp t fuel (d + 8)) (.func 26 []) [.ptr dp 0] H k = k (.tup [.ptr kp 0, .int 3 0]) H') ∧ Step H O H' O' ∧ Disk H' dp (A.recover n us).1 O' ∧ KAt H' kp term voted vl dp false ∧ LogC H' vl es (fun b => O' b ∨ b = kp) ∧ (∀ b, O' b → b ≠ kp) ∧ H.n ≤ kp := by
  obtain ⟨G1, O1, z1, s1, D1⟩ := recover_call (cp := cp) (fuel := fuel) T hc F hu hD C (by omega)
  rw [h0] at z1
  generalize (A.recover n us).1 = B at ho K D1 ⊢
  have Y' := Y
  obtain ⟨y1, y2, y3, y4, y5⟩ := Y'
  obtain ⟨G2, vl, va, z2, f2, hvl, hva⟩ := kread_call (cp := cp) (fuel := fuel) T hc D1 ho K Y (by omega)
  have hlt := D1.lt
  have hlc : LogC G2 vl es O1 := hvl.at_ (fun e he => (y5 e he).1) hlt
  have w2 := f2.wf
  have f3 : Fresh G2 ((G2.new (.cells [.int 7 0, .int 3 0, .nils])).put G2.n (.cells [.int 7 term, .int 3 voted, vl])) := (Fresh.new w2).put (Nat.le_refl _) (by rw [Heap.n_new]; omega)
  have g3 : ((G2.new (.cells [.int 7 0, .int 3 0, .nils])).put G2.n (.cells [.int 7 term, .int 3 voted, vl])).get G2.n = .cells [.int 7 term, .int 3 voted, vl] := by rw [Heap.get_put (by rw [Heap.wf_new]; exact w2) (by rw [Heap.n_new]; omega), if_pos rfl]
  have n3 : G2.n < ((G2.new (.cells [.int 7 0, .int 3 0, .nils])).put G2.n (.cells [.int 7 term, .int 3 voted, vl])).n := by rw [Heap.n_put, Heap.n_new]; omega
  generalize hG3 : (G2.new (.cells [.int 7 0, .int 3 0, .nils])).put G2.n (.cells [.int 7 term, .int 3 voted, vl]) = G3 at f3 g3 n3
  have hl3 := hlc.fresh f3
  obtain ⟨G4, z4, f4⟩ := may_k_call (cp := cp) (fuel := fuel) (term := term) (voted := voted) T f3.wf hl3.at_ (by omega) (by omega)
  rw [hm] at z4
  have hl4 := hl3.fresh f4
  obtain ⟨G5, vs, z5, f5, hvs⟩ := sectors_call (cp := cp) (fuel := fuel) (term := term) (voted := voted) T f4.wf y1 y2 hl4.at_ (by omega) (fun e he => by have := (y5 e he).2; omega) (by omega)
  have hva5 := ((hva.fresh f3).fresh f4).fresh f5
  have z6 := fun {d : Nat} {k : Go.Ev.K} => equal_call (cp := cp) (fuel := fuel) (n := es.length) T f5.wf (by have := hva5; rwa [Nat.add_comm] at this) (by
    have h : Gr G1 G5 vs 1 (1 + es.length) (secs (hdT term voted es.length) es) := by
      obtain ⟨p1, p2, p3 | ⟨b, c, s, p3, p4, p5, p6, p7, p8⟩⟩ := hvs
      · exact ⟨p1, p2, Or.inl p3⟩
      · exact ⟨p1, p2, Or.inr ⟨b, c, s, p3, p4, p5, p6, by have := f2.n; have := f3.n; have := f4.n; omega, p8⟩⟩
    rwa [Nat.add_comm] at h) (by omega) (secs_tv _ _) hfu d k
  have g4 : G4.get G2.n = .cells [.int 7 term, .int 3 voted, vl] := (f4.same _ n3).trans g3
  have g5 : G5.get G2.n = .cells [.int 7 term, .int 3 voted, vl] := (f5.same _ (by have := f4.n; omega)).trans g4
  have w5 := f5.wf
  have f6 : Fresh G5 (G5.new (.cells [.int 7 term, .int 3 voted, vl, .ptr dp 0, .bool false])) := Fresh.new w5
  have f26 := (((f2.trans f3).trans f4).trans f5).trans f6
  refine ⟨G5.new (.cells [.int 7 term, .int 3 voted, vl, .ptr dp 0, .bool false]), O1, G5.n, vl, fun d k => ?_, s1.trans f26.step, D1.fresh f26, ⟨by rw [Heap.get_new w5, if_pos rfl], by rw [Heap.n_new]; omega⟩, ((hl4.fresh f5).weak fun b hb h => h.elim id fun e => by omega).fresh f6, fun b hb h => ?_, ?_⟩
  · have hi := fun {id : Nat} {k : R} => is1_of hlc.at_.one (id := id) (k := k)
    have z1' := fun {k : Go.Ev.K} => z1 d k
    have z2' := fun {k : Go.Ev.K} => z2 (d + 2) k
    have z4' := fun {k : Go.Ev.K} => z4 (d + 2) k
    have z5' := fun {k : Go.Ev.K} => z5 (d + 2) k
    have z6' := fun {k : Go.Ev.K} => z6 (d := d + 6) (k := k)
    have e8 : G2.n < G2.n + 1 := by omega
    rw [call_entry T.k13 rfl rfl]
    simp only [go_sem, ↓op_app, reduceCtorEq, Nat.reduceAdd, Nat.reduceSub, Nat.reduceMul, Nat.reduceEqDiff, Nat.reduceLT, Nat.reduceDiv, Nat.reduceMod, Nat.reduceLeDiff, ↓reduceIte, c13, z1', z2', hi, w2, e8, hG3, g3, z4', g4, z5', z6', g5, w5]
  · have := hlt b hb
    have := f2.n; have := f3.n; have := f4.n; have := f5.n
    omega
  · have := s1.n; have := f2.n; have := f3.n; have := f4.n; have := f5.n
    omega
end
end Go.Ev
end
section
namespace Go.Ev
def difW (A : AD) (ss : List (List UInt8)) : Nat → List Wr
  | 0 => []
  | i + 1 => difW A ss i ++ (if A.read (145 + i) = tx (ss.getD i []) then [] else [(145 + i, tx (ss.getD i []))])
theorem difW_len (A : AD) (ss : List (List UInt8)) : ∀ i, (difW A ss i).length ≤ i
  | 0 => Nat.le_refl _
  | i + 1 => by
    have := difW_len A ss i
    simp only [difW, List.length_append]
    split <;> simp <;> omega
theorem difW_mem {A : AD} {ss : List (List UInt8)} : ∀ {i : Nat} {w : Wr}, w ∈ difW A ss i → ∃ j, j < i ∧ w = (145 + j, tx (ss.getD j []))
  | 0, w, h => by cases h
  | i + 1, w, h => by
    simp only [difW] at h
    rcases List.mem_append.1 h with h | h
    · obtain ⟨j, hj, e⟩ := difW_mem h; exact ⟨j, by omega, e⟩
    · split at h
      · cases h
      · exact ⟨i, by omega, List.mem_singleton.1 h⟩
theorem difW_nodup {A : AD} {ss : List (List UInt8)} : ∀ i, ((difW A ss i).map (·.1)).Nodup
  | 0 => List.nodup_nil
  | i + 1 => by
    simp only [difW, List.map_append]
    refine List.nodup_append.2 ⟨difW_nodup i, by split <;> simp, fun x hx y hy => ?_⟩
    obtain ⟨w, hw, rfl⟩ := List.mem_map.1 hx
    obtain ⟨j, hj, rfl⟩ := difW_mem hw
    split at hy
    · cases hy
    · simp only [List.map_cons, List.map_nil, List.mem_singleton] at hy
      subst hy
      show 145 + j ≠ 145 + i
      omega
theorem difW_in {A : AD} {ss : List (List UInt8)} : ∀ {i j : Nat}, j < i → A.read (145 + j) ≠ tx (ss.getD j []) → ((145 + j, tx (ss.getD j [])) : Wr) ∈ difW A ss i
  | 0, j, h, _ => by omega
  | i + 1, j, h, hn => by
    simp only [difW]
    by_cases hj : j = i
    · subst hj
      rw [if_neg hn]
      exact List.mem_append_right _ (List.mem_singleton.2 rfl)
    · exact List.mem_append_left _ (difW_in (by omega) hn)
theorem difW_laid {A B : AD} {ss : List (List UInt8)} {n : Nat} (hB : ∀ k, 145 ≤ k → find B.es k = find (laid A.es (difW A ss n)) k) {j : Nat} (hj : j < n) : B.read (145 + j) = tx (ss.getD j []) := by
  rw [AD.read, hB _ (by omega)]
  by_cases h : A.read (145 + j) = tx (ss.getD j [])
  · have hno : 145 + j ∉ (difW A ss n).map (·.1) := fun hm => by
      obtain ⟨w, hw, e⟩ := List.mem_map.1 hm
      have : ∀ m, ((145 + j, tx (ss.getD j [])) : Wr) ∉ difW A ss m := by
        intro m
        induction m with
        | zero => intro h; cases h
        | succ m ih =>
          intro hx
          simp only [difW] at hx
          rcases List.mem_append.1 hx with hx | hx
          · exact ih hx
          · split at hx
            · cases hx
            · rename_i hne
              have e1 := List.mem_singleton.1 hx
              have e2 : 145 + j = 145 + m := congrArg (·.1) e1
              have e3 : j = m := by omega
              subst e3
              exact hne h
      obtain ⟨i, hi, rfl⟩ := difW_mem hw
      have e4 : i = j := by have : 145 + i = 145 + j := e; omega
      subst e4
      exact this n hw
    rw [find_laid_not hno]
    exact h
  · rw [show find (laid A.es (difW A ss n)) (145 + j) = some (tx (ss.getD j [])) from find_laid_mem (difW_nodup n) (difW_in hj h)]
    rfl
theorem mayP_of {len : Nat} : ∀ {ws : List Wr} {seen : List Nat}, (∀ w ∈ ws, goodW len w ∧ w.1 ∉ seen) → (ws.map (·.1)).Nodup → mayP len seen ws = true
  | [], _, _, _ => rfl
  | w :: ws, seen, h, hn => by
    rw [List.map_cons, List.nodup_cons] at hn
    simp only [mayP]
    rw [if_pos (h w (List.mem_cons_self ..))]
    refine mayP_of (fun v hv => ⟨(h v (List.mem_cons_of_mem _ hv)).1, fun hm => ?_⟩) hn.2
    rcases List.mem_append.1 hm with hm | hm
    · exact (h v (List.mem_cons_of_mem _ hv)).2 hm
    · exact hn.1 (List.mem_map.2 ⟨v, hv, List.mem_singleton.1 hm⟩)
section
variable {cp : RC → CodeE} {t : Nat → Option FnE} {fuel : Nat} {H : Heap}
set_option maxHeartbeats 1000000 in
theorem save_loop (T : TCode t) (hc : HasClone t) {kp dp term voted : Nat} {vl vs : V} {lost : Bool} {A : AD} {O : Nat → Prop} {ss : List (List UInt8)} {H0 : Heap} (hD : Disk H dp A O) (ho : A.off = false) (hK : KAt H kp term voted vl dp lost) (hvs : Gr H0 H vs 1 ss.length (ss.map tv)) (hN : ss.length ≤ 301) (hA : 446 ≤ A.len) (hA2 : A.len ≤ 1024) {v3 : V} :
    ∀ (m i : Nat) (G : Heap) (vw : V), i + m = ss.length → Fresh H G → Gr H G vw 2 (difW A ss i).length (encW (difW A ss i)) →
    ∃ G' vw', Fresh H G' ∧ Gr H G' vw' 2 (difW A ss ss.length).length (encW (difW A ss ss.length)) ∧ ∀ (d : Nat) (kx : Nat → KE) (r : Nat) (e : Env), m < r → pget ⟨.i0, .i0, .i0⟩ e = .ptr kp 0 → pget ⟨.i0, .i0, .i3⟩ e = v3 → pget ⟨.i0, .i0, .i5⟩ e = vw → pget ⟨.i0, .i5, .i3⟩ e = vs → pget ⟨.i0, .i5, .i4⟩ e = .int 3 ss.length → pget ⟨.i0, .i5, .i5⟩ e = .int 3 i →
      ∀ x : R, (∀ e', pget ⟨.i0, .i0, .i0⟩ e' = .ptr kp 0 → pget ⟨.i0, .i0, .i3⟩ e' = v3 → pget ⟨.i0, .i0, .i5⟩ e' = vw' → kx 1 e' G' = x) →
      evL c10l0 fuel (evP cp t fuel (d + 3)) kx r e G = x := by
  intro m
  induction m with
  | zero =>
    intro i G vw hi f hg
    obtain rfl : i = ss.length := by omega
    refine ⟨G, vw, f, hg, fun d kx r e hr h0 h3 h5 h53 h54 h55 x hT => ?_⟩
    obtain ⟨r, rfl⟩ : ∃ q, r = q + 1 := ⟨r - 1, by omega⟩
    have e1 : ¬ ss.length < ss.length := by omega
    have e2 : nn ss.length := by unfold nn; omega
    rw [evL_succ]
    simp only [go_sem, ↓op_app, reduceCtorEq, Nat.reduceAdd, Nat.reduceSub, Nat.reduceMul, Nat.reduceEqDiff, Nat.reduceLT, Nat.reduceDiv, Nat.reduceMod, Nat.reduceLeDiff, ↓reduceIte, c10l0, h0, h3, h5, h53, h54, h55, e1, e2]
    exact hT _ (by simp only [go_sem, reduceCtorEq, ↓reduceIte, h0]) (by simp only [go_sem, reduceCtorEq, ↓reduceIte, h3]) (by simp only [go_sem, reduceCtorEq, ↓reduceIte, h5])
  | succ m ih =>
    intro i G vw hi f hg
    have hlt : i < ss.length := by omega
    have hget : ss[i]? = some ss[i] := List.getElem?_eq_getElem hlt
    have hgd : ss.getD i [] = ss[i] := by rw [List.getD_eq_getElem?_getD, hget]; rfl
    have hdif : difW A ss (i + 1) = difW A ss i ++ (if A.read (145 + i) = tx ss[i] then [] else [(145 + i, tx ss[i])]) := by rw [← hgd]; rfl
    generalize ss[i] = sx at hget hdif
    have hrow : (ss.map tv)[i]? = some (tv sx) := by rw [List.getElem?_map, hget]; rfl
    obtain ⟨p1, p2, ⟨p3, p4⟩ | ⟨bs, cs, zs, p3, p4, p5, p6, p7, p8⟩⟩ := hvs
    · omega
    have gS : G.get bs = .cells (ss.map tv) := (f.same bs p8).trans p6
    have hrd : ∀ {id : Nat} {k : V → R}, nth id (ss.map tv) i k = k (.str sx.length (enc sx)) := nth_get hrow
    have gK := (hK.fresh f).get
    obtain ⟨G1, z1, f1⟩ := read_all (cp := cp) (fuel := fuel) (a := 145 + i) (T.disk4 hc) (hD.fresh f) ho (by omega)
    have w1 := f1.wf
    have e1 : nn i := by unfold nn; omega
    have e2 : nn ss.length := by unfold nn; omega
    have e3 : i < 9223372036854775808 := by omega
    have e9 : (i + 1) % 18446744073709551616 = i + 1 := by omega
    have e10 : (145 + i) % 18446744073709551616 = 145 + i := by omega
    have z1' := fun {d : Nat} {k : K} => z1 d k
    generalize hq : A.read (145 + i) = q at z1' hdif
    by_cases hqs : q = tx sx
    · rw [if_pos hqs, List.append_nil] at hdif
      obtain ⟨G', vw', f', hg', hL⟩ := ih (i + 1) G1 vw (by omega) (f.trans f1) (by rw [hdif]; exact hg.fresh f1)
      refine ⟨G', vw', f', hg', fun d kx r e hr h0 h3 h5 h53 h54 h55 x hT => ?_⟩
      obtain ⟨r, rfl⟩ : ∃ q, r = q + 1 := ⟨r - 1, by omega⟩
      rw [hqs] at z1'
      simp only [sv, tx] at z1'
      subst p3
      rw [evL_succ]
      simp only [go_sem, ↓op_app, reduceCtorEq, Nat.reduceAdd, Nat.reduceSub, Nat.reduceMul, Nat.reduceEqDiff, Nat.reduceLT, Nat.reduceDiv, Nat.reduceMod, Nat.reduceLeDiff, ↓reduceIte, c10l0, h0, h3, h5, h53, h54, h55, hlt, e1, e2, e3, e9, e10, gS, hrd, gK, z1', and_self]
      refine hL d kx r _ (by omega) ?_ ?_ ?_ ?_ ?_ ?_ x hT
      · simp only [go_sem, reduceCtorEq, ↓reduceIte, h0]
      · simp only [go_sem, reduceCtorEq, ↓reduceIte, h3]
      · simp only [go_sem, reduceCtorEq, ↓reduceIte, h5]
      · simp only [go_sem, reduceCtorEq, ↓reduceIte, h53]
      · simp only [go_sem, reduceCtorEq, ↓reduceIte, h54]
      · simp only [go_sem, reduceCtorEq, ↓reduceIte]
    · rw [if_neg hqs] at hdif
      have f2 : Fresh G1 (G1.new (.cells [.int 3 (145 + i), tv sx])) := Fresh.new w1
      have g2 : (G1.new (.cells [.int 3 (145 + i), tv sx])).get G1.n = .cells [.int 3 (145 + i), tv sx] := by rw [Heap.get_new w1, if_pos rfl]
      obtain ⟨v', G3, hop, hg3, f3, _, _, _⟩ := Gr.app (cx := 2) (sx := 0) ((f.trans f1).trans f2) ((hg.fresh f1).fresh f2) g2 rfl (by simp [tv, V.one]) (by have := difW_len A ss i; omega)
      have hl1 : (difW A ss (i + 1)).length = (difW A ss i).length + 1 := by rw [hdif]; simp
      have hl2 : encW (difW A ss (i + 1)) = encW (difW A ss i) ++ [.int 3 (145 + i), tv sx] := by rw [hdif, encW_append]; rfl
      obtain ⟨G', vw', f', hg', hL⟩ := ih (i + 1) G3 v' (by omega) f3 (by rw [hl1, hl2]; exact hg3)
      refine ⟨G', vw', f', hg', fun d kx r e hr h0 h3 h5 h53 h54 h55 x hT => ?_⟩
      obtain ⟨r, rfl⟩ : ∃ q, r = q + 1 := ⟨r - 1, by omega⟩
      have hne : (q.1 = sx.length ∧ q.2 = enc sx) = False := eq_false fun h => hqs (Prod.ext h.1 h.2)
      simp only [sv] at z1'
      simp only [tv] at hop
      subst p3
      rw [evL_succ]
      simp only [go_sem, reduceCtorEq, Nat.reduceAdd, Nat.reduceSub, Nat.reduceMul, Nat.reduceEqDiff, Nat.reduceLT, Nat.reduceDiv, Nat.reduceMod, Nat.reduceLeDiff, ↓reduceIte, c10l0, h0, h3, h5, h53, h54, h55, hlt, e1, e2, e3, e9, e10, gS, hrd, gK, z1', hne, w1, ↓hop]
      refine hL d kx r _ (by omega) ?_ ?_ ?_ ?_ ?_ ?_ x hT
      · simp only [go_sem, reduceCtorEq, ↓reduceIte, h0]
      · simp only [go_sem, reduceCtorEq, ↓reduceIte, h3]
      · simp only [go_sem, reduceCtorEq, ↓reduceIte]
      · simp only [go_sem, reduceCtorEq, ↓reduceIte, h53]
      · simp only [go_sem, reduceCtorEq, ↓reduceIte, h54]
      · simp only [go_sem, reduceCtorEq, ↓reduceIte]
end
end Go.Ev
end
section
namespace Go.Ev
def With (O : Nat → Prop) (kp : Nat) : Nat → Prop := fun b => O b ∨ b = kp
theorem Step.own_put {H : Heap} {P : Nat → Prop} {kp : Nat} {x : Blk} (hw : H.wf) (hk : kp < H.n) (hp : P kp) : Step H P (H.put kp x) P :=
  ⟨by rw [Heap.wf_put]; exact hw, by rw [Heap.n_put]; exact Nat.le_refl _, fun b hb ho => ⟨by rw [Heap.get_put hw hk, if_neg (fun e => ho (by rw [e]; exact hp))], ho⟩, fun lo h1 h2 h3 => ⟨Heap.lo_put h1 (h3 kp hp), h3⟩⟩
theorem Step.with_ {H H' : Heap} {O O' : Nat → Prop} {kp : Nat} (s : Step H O H' O') : Step H (With O kp) H' (With O' kp) :=
  ⟨s.wf, s.n, fun b hb ho => ⟨(s.same b hb fun h => ho (Or.inl h)).1, fun h => h.elim (fun h => (s.same b hb fun h => ho (Or.inl h)).2 h) fun h => ho (Or.inr h)⟩, fun lo h1 h2 h3 => ⟨(s.lo lo h1 h2 fun b hb => h3 b (Or.inl hb)).1, fun b hb => hb.elim (fun hb => (s.lo lo h1 h2 fun b hb => h3 b (Or.inl hb)).2 b hb) fun hb => h3 b (Or.inr hb)⟩⟩
def ssOf (term voted : Nat) (es : List Ent) : List (List UInt8) := hdT term voted es.length :: es.map enT
theorem ssOf_length (term voted : Nat) (es : List Ent) : (ssOf term voted es).length = 1 + es.length := by simp [ssOf]; omega
theorem ssOf_secs (term voted : Nat) (es : List Ent) : (ssOf term voted es).map tv = secs (hdT term voted es.length) es := by simp [ssOf, secs]
theorem ssOf_has {A : AD} {term voted : Nat} {es : List Ent} (lo : 446 ≤ A.len) (hi : A.len ≤ 1024) (h : ∀ j, j < 1 + es.length → A.read (145 + j) = tx ((ssOf term voted es).getD j [])) : HasK A term voted es := by
  refine ⟨lo, hi, h 0 (by omega), fun i e he => ?_⟩
  have hlt := (List.getElem?_eq_some_iff.1 he).1
  have := h (i + 1) (by omega)
  rw [show 145 + (i + 1) = 146 + i by omega] at this
  rw [this]
  simp [ssOf, he]
theorem ssOf_32 {term voted : Nat} {es : List Ent} (hk : ∀ e ∈ es, okE e ∧ e.2.1 ≤ 3) : ∀ s ∈ ssOf term voted es, s.length = 32 := by
  intro s hs
  rcases List.mem_cons.1 hs with rfl | h
  · exact sec_length (hd32 _ _ _)
  · obtain ⟨e, he, rfl⟩ := List.mem_map.1 h
    exact sec_length (en32 (by have := (hk e he).2; omega))
structure KS (pk : List UInt8 → List (List UInt8)) (H0 H : Heap) (dp kp : Nat) (A : AD) (O : Nat → Prop) (term voted : Nat) (vl : V) (es : List Ent) : Prop where
  fresh : Fresh H0 H
  disk : Disk H dp A O
  own : ∀ b, O b → H0.n ≤ b
  jd : ∃ a n us, JD pk A a n us
  fuse : A.fuse = 0
  len : A.len = 446
  room : A.room = 446
  kpo : H0.n ≤ kp
  kpn : ¬ O kp
  kat : KAt H kp term voted vl dp false
  log : LogC H vl es (With O kp)
  has : HasK A term voted es
  okk : OkK term voted es
section
variable {cp : RC → CodeE} {t : Nat → Option FnE} {fuel : Nat} {H : Heap} {pk : List UInt8 → List (List UInt8)} {unpk : List (List UInt8) → Option (List UInt8)}
set_option maxHeartbeats 2000000 in
theorem save_call (T : TCode t) (hc : HasClone t) (F : FrameOK pk unpk) (hp : t 104 = some (.nat (nPack pk))) {H0 : Heap} {dp kp term voted term' voted' : Nat} {A : AD} {O : Nat → Prop} {vl v : V} {es es' : List Ent} (S : KS pk H0 H dp kp A O term voted vl es) (hl : LogC H v es' (With O kp)) (Y : OkK term' voted' es') (hm : mayK term' voted' es' = true) (hfu : 1000000 < fuel) :
    ∃ H' O' A' vl', (∀ (d : Nat) (k : K), callP (evP cp t fuel (d + 8)) (.func 20 []) [.ptr kp 0, .agg [.int 7 term', .int 3 voted', v]] H k = k (.int 3 (if 60 < (difW A (ssOf term' voted' es') (1 + es'.length)).length then 3 else 0)) H') ∧ Step H (With O kp) H' (With O' kp) ∧
      ((60 < (difW A (ssOf term' voted' es') (1 + es'.length)).length ∧ KS pk H0 H' dp kp A' O' term voted vl' es ∧ A' = A) ∨ (¬ 60 < (difW A (ssOf term' voted' es') (1 + es'.length)).length ∧ KS pk H0 H' dp kp A' O' term' voted' vl' es' ∧ ∀ k, 145 ≤ k → find A'.es k = find (laid A.es (difW A (ssOf term' voted' es') (1 + es'.length))) k)) := by
  obtain ⟨fr, hD, own, ⟨a, n, us, J⟩, hf, hlen, hroom, kpo, kpn, kat, hlog, has, okk⟩ := S
  have Y' := Y
  obtain ⟨y1, y2, y3, y4, y5⟩ := Y'
  have hw := hD.wf
  have kn := kat.lt
  have hlO : LogC H v es' O := hl.weak fun b _ h => Or.inl h
  -- the box
  have f1 : Fresh H (H.new (.cells [.int 7 term', .int 3 voted', v])) := Fresh.new hw
  have g1 : (H.new (.cells [.int 7 term', .int 3 voted', v])).get H.n = .cells [.int 7 term', .int 3 voted', v] := by rw [Heap.get_new hw, if_pos rfl]
  have n1 : H.n < (H.new (.cells [.int 7 term', .int 3 voted', v])).n := by rw [Heap.n_new]; omega
  generalize hG1 : H.new (.cells [.int 7 term', .int 3 voted', v]) = G1 at f1 g1 n1
  have D1 := hD.fresh f1
  have k1 := kat.fresh f1
  have w1 := f1.wf
  have hon := fun {d : Nat} {k : K} => on_all (cp := cp) (fuel := fuel) (T.disk4 hc) (d := d) (k := k) D1
  rw [J.off] at hon
  -- lost
  have s2 : Step G1 (With O kp) (G1.put kp (.cells [.int 7 term, .int 3 voted, vl, .ptr dp 0, .bool false])) (With O kp) := Step.own_put w1 k1.lt (Or.inr rfl)
  have q2 : ∀ j, (G1.put kp (.cells [.int 7 term, .int 3 voted, vl, .ptr dp 0, .bool false])).get j = G1.get j := fun j => by
    rw [Heap.get_put w1 k1.lt]
    split
    · rename_i e; rw [e, k1.get]
    · rfl
  have m2 : (G1.put kp (.cells [.int 7 term, .int 3 voted, vl, .ptr dp 0, .bool false])).n = G1.n := Heap.n_put
  have D2 : Disk (G1.put kp (.cells [.int 7 term, .int 3 voted, vl, .ptr dp 0, .bool false])) dp A O := (D1.keep (Q := fun b => b = kp) (Step.own_put w1 k1.lt rfl) fun b hb e => kpn (by rw [← e]; exact hb)).1
  have fr2 : Fresh H0 (G1.put kp (.cells [.int 7 term, .int 3 voted, vl, .ptr dp 0, .bool false])) := (fr.trans f1).put kpo k1.lt
  generalize hG2 : G1.put kp (.cells [.int 7 term, .int 3 voted, vl, .ptr dp 0, .bool false]) = G2 at s2 q2 m2 D2 fr2
  have w2 := D2.wf
  have g2 : G2.get H.n = .cells [.int 7 term', .int 3 voted', v] := (q2 _).trans g1
  have l2 : LogC G2 v es' (With O kp) := (hl.fresh f1).keep s2
  have kat2 : KAt G2 kp term voted vl dp false := ⟨(q2 _).trans k1.get, by rw [m2]; exact k1.lt⟩
  -- may, sectors
  obtain ⟨G3, z3, f3⟩ := may_k_call (cp := cp) (fuel := fuel) (term := term') (voted := voted') T w2 l2.at_ (by omega) (by omega)
  rw [hm] at z3
  have g3 : G3.get H.n = .cells [.int 7 term', .int 3 voted', v] := (f3.same _ (by omega)).trans g2
  obtain ⟨G4, vs, z4, f4, hvs⟩ := sectors_call (cp := cp) (fuel := fuel) (term := term') (voted := voted') T f3.wf y1 y2 (l2.fresh f3).at_ (by omega) (fun e he => by have := (y5 e he).2; omega) (by omega)
  have f24 := f3.trans f4
  rw [← ssOf_secs, ← ssOf_length term' voted'] at hvs
  have D4 := D2.fresh f24
  obtain ⟨G5, vw, f5, hvw, hL⟩ := save_loop (cp := cp) (fuel := fuel) (v3 := .ptr H.n 0) T hc D4 J.off (kat2.fresh f24) hvs (by rw [ssOf_length]; omega) (by omega) (by omega) (ssOf term' voted' es').length 0 G4 .nils (by omega) (Fresh.refl f4.wf) Gr.nils
  have hsl := ssOf_length term' voted' es'
  have f25 := f24.trans f5
  have D5 := D2.fresh f25
  have g5 : G5.get H.n = .cells [.int 7 term', .int 3 voted', v] := ((f25).same _ (by omega)).trans g2
  have kat5 := kat2.fresh f25
  have l5 := l2.fresh f25
  have s25 : Step H (With O kp) G5 (With O kp) := (f1.step.trans s2).trans f25.step
  have hi := fun {id : Nat} {k : R} => is1_of hl.at_.one (id := id) (k := k)
  have hsv := fun {id : Nat} {g : Nat → R} => hvs.sn (id := id) (f := g)
  have hsw := fun {id : Nat} {g : Nat → R} => hvw.sn (id := id) (f := g)
  have z3' := fun {d : Nat} {k : K} => z3 (d + 2) k
  have z4' := fun {d : Nat} {k : K} => z4 (d + 2) k
  have e1 : (ssOf term' voted' es').length < 9223372036854775808 := by omega
  have hwl := difW_len A (ssOf term' voted' es') (ssOf term' voted' es').length
  have e2 : (difW A (ssOf term' voted' es') (ssOf term' voted' es').length).length < 9223372036854775808 := by omega
  have e3 : nn (difW A (ssOf term' voted' es') (ssOf term' voted' es').length).length := by unfold nn; omega
  have e4 : nn 60 := by unfold nn; omega
  have gk1 := k1.get
  have gk2 := kat2.get
  have gk5 := kat5.get
  have kn1 := k1.lt
  by_cases h60 : 60 < (difW A (ssOf term' voted' es') (1 + es'.length)).length
  · refine ⟨G5, O, A, vl, fun d k => ?_, s25, Or.inl ⟨h60, ⟨fr2.trans f25, D5, own, ⟨a, n, us, J⟩, hf, hlen, hroom, kpo, kpn, kat5, ?_, has, okk⟩, rfl⟩⟩
    · rw [if_pos h60]
      rw [← hsl] at h60
      rw [call_entry T.k10 rfl rfl]
      simp only [go_sem, ↓op_app, reduceCtorEq, Nat.reduceAdd, Nat.reduceSub, Nat.reduceMul, Nat.reduceEqDiff, Nat.reduceDiv, Nat.reduceMod, Nat.reduceLeDiff, ↓reduceIte, c10, hw, hi, hG1]
      simp only [go_sem, ↓op_app, reduceCtorEq, Nat.reduceAdd, Nat.reduceSub, Nat.reduceMul, Nat.reduceEqDiff, Nat.reduceDiv, Nat.reduceMod, Nat.reduceLeDiff, ↓reduceIte, c10r1, c10r2, gk1, g1, hon, w1, kn1, hG2, gk2, g2]
      simp only [go_sem, ↓op_app, reduceCtorEq, Nat.reduceAdd, Nat.reduceSub, Nat.reduceMul, Nat.reduceEqDiff, Nat.reduceDiv, Nat.reduceMod, Nat.reduceLeDiff, ↓reduceIte, c10r3, c10r4, c10r5, g2, z3', g3, z4', hi, ↓hsv, e1]
      refine hL (d + 4) _ fuel _ (by omega) ?_ ?_ ?_ ?_ ?_ ?_ _ (fun e' q0 q3 q5 => ?_)
      · simp only [go_sem, reduceCtorEq, ↓reduceIte]
      · simp only [go_sem, reduceCtorEq, ↓reduceIte]
      · simp only [go_sem, reduceCtorEq, ↓reduceIte]
      · simp only [go_sem, reduceCtorEq, ↓reduceIte]
      · simp only [go_sem, reduceCtorEq, ↓reduceIte]
      · simp only [go_sem, reduceCtorEq, ↓reduceIte]
      simp only [go_sem, ↓op_app, reduceCtorEq, Nat.reduceAdd, Nat.reduceSub, Nat.reduceMul, Nat.reduceEqDiff, Nat.reduceDiv, Nat.reduceMod, Nat.reduceLeDiff, ↓reduceIte, c10r6, q0, q3, q5, ↓hsw, e2, e3, e4, h60]
    · exact ((hlog.fresh f1).keep s2).fresh f25
  · -- the commit
    have hgood : ∀ w ∈ difW A (ssOf term' voted' es') (ssOf term' voted' es').length, goodW A.len w ∧ okT w.2 := fun w hw => by
      obtain ⟨j, hj, rfl⟩ := difW_mem hw
      have hm := ssOf_32 (term := term') (voted := voted') y5 ((ssOf term' voted' es').getD j []) (by
        rw [List.getD_eq_getElem?_getD, List.getElem?_eq_getElem hj]
        exact List.getElem_mem _)
      refine ⟨⟨by show 145 ≤ 145 + j; omega, by show 145 + j < _; omega, hm⟩, ?_⟩
      show enc _ < 256 ^ _
      exact enc_lt _
    have hw3 : ∀ w ∈ difW A (ssOf term' voted' es') (ssOf term' voted' es').length, okT w.2 := fun w hw => (hgood w hw).2
    have hmay := mayP_of (len := A.len) (seen := []) (fun w hw => ⟨(hgood w hw).1, fun h => (by cases h)⟩) (difW_nodup (A := A) (ss := ssOf term' voted' es') (ssOf term' voted' es').length)
    have hcode := J.code F hf (by omega) hw3
    have hdid := J.commit F hf hw3
    have h0 : (A.commit pk a (difW A (ssOf term' voted' es') (ssOf term' voted' es').length)).2 = 0 := by
      rw [hcode]
      unfold Ev.code
      rw [← hsl] at h60
      by_cases hz : (difW A (ssOf term' voted' es') (ssOf term' voted' es').length).length = 0
      · rw [if_pos hz]
      · rw [if_neg hz, if_neg h60, if_neg (by rw [hmay]; exact Bool.noConfusion)]
    have hws : WsAt G5 vw (difW A (ssOf term' voted' es') (ssOf term' voted' es').length) O := by
      obtain ⟨p1, p2, ⟨p3, p4⟩ | ⟨b, c, s, p3, p4, p5, p6, p7, p8⟩⟩ := hvw
      · exact Or.inl ⟨p3, List.eq_nil_of_length_eq_zero p4⟩
      · exact Or.inr ⟨b, c, s, p3, p6, p8, fun hb => by have := hD.lt b hb; have := f1.n; have := f24.n; omega⟩
    obtain ⟨G6, O6, z6, s6, D6⟩ := commit_call (cp := cp) (fuel := fuel) T hc F hp D5 J.rec_.can hws (fun w hw => ⟨by have := (hgood w hw).1.2.1; omega, by have := (hgood w hw).1.2.2; omega, (hgood w hw).2⟩) (by omega) (by omega)
    rw [h0] at z6
    have hHO : ¬ O H.n := fun hb => by have := hD.lt _ hb; omega
    have n5 : H.n < G5.n := by have := f24.n; have := f5.n; omega
    have g6 : G6.get H.n = .cells [.int 7 term', .int 3 voted', v] := (s6.same _ n5 hHO).1.trans g5
    have kat6 : KAt G6 kp term voted vl dp false := ⟨(s6.same _ kat5.lt kpn).1.trans kat5.get, Nat.lt_of_lt_of_le kat5.lt s6.n⟩
    have kpn6 : ¬ O6 kp := (s6.same _ kat5.lt kpn).2
    have l6 : LogC G6 v es' (With O6 kp) := l5.keep s6.with_
    have w6 := s6.wf
    obtain ⟨fr6, own6⟩ := (fr2.trans f25).own s6 own
    obtain ⟨G7, vl', z7, f7, hvl⟩ := own_call (cp := cp) (fuel := fuel) (term := term') (voted := voted') T w6 l6 (by omega) (by omega)
    have kat7 := kat6.fresh f7
    have w7 := f7.wf
    have D7 := D6.fresh f7
    have hl7 : LogC G7 vl' es' (With O6 kp) := hvl.at_ (fun e he => (y5 e he).1) fun b hb => hb.elim (fun h => D6.lt b h) fun h => by rw [h]; exact kat6.lt
    -- kept
    have s8 : Step G7 (With O6 kp) ((G7.put kp (.cells [.int 7 term', .int 3 voted', vl', .ptr dp 0, .bool false])).put kp (.cells [.int 7 term', .int 3 voted', vl', .ptr dp 0, .bool false])) (With O6 kp) := (Step.own_put w7 kat7.lt (Or.inr rfl)).trans (Step.own_put (by rw [Heap.wf_put]; exact w7) (by rw [Heap.n_put]; exact kat7.lt) (Or.inr rfl))
    have D8 : Disk ((G7.put kp (.cells [.int 7 term', .int 3 voted', vl', .ptr dp 0, .bool false])).put kp (.cells [.int 7 term', .int 3 voted', vl', .ptr dp 0, .bool false])) dp (A.commit pk a (difW A (ssOf term' voted' es') (ssOf term' voted' es').length)).1 O6 := (D7.keep (Q := fun b => b = kp) ((Step.own_put (P := fun b => b = kp) w7 kat7.lt rfl).trans (Step.own_put (P := fun b => b = kp) (by rw [Heap.wf_put]; exact w7) (by rw [Heap.n_put]; exact kat7.lt) rfl)) fun b hb e => kpn6 (by rw [← e]; exact hb)).1
    have g8 : (G7.put kp (.cells [.int 7 term', .int 3 voted', vl', .ptr dp 0, .bool false])).get kp = .cells [.int 7 term', .int 3 voted', vl', .ptr dp 0, .bool false] := by rw [Heap.get_put w7 kat7.lt, if_pos rfl]
    have g9 : ((G7.put kp (.cells [.int 7 term', .int 3 voted', vl', .ptr dp 0, .bool false])).put kp (.cells [.int 7 term', .int 3 voted', vl', .ptr dp 0, .bool false])).get kp = .cells [.int 7 term', .int 3 voted', vl', .ptr dp 0, .bool false] := by rw [Heap.get_put (by rw [Heap.wf_put]; exact w7) (by rw [Heap.n_put]; exact kat7.lt), if_pos rfl]
    have n9 : kp < ((G7.put kp (.cells [.int 7 term', .int 3 voted', vl', .ptr dp 0, .bool false])).put kp (.cells [.int 7 term', .int 3 voted', vl', .ptr dp 0, .bool false])).n := by simp only [Heap.n_put]; exact kat7.lt
    have fr9 : Fresh H0 ((G7.put kp (.cells [.int 7 term', .int 3 voted', vl', .ptr dp 0, .bool false])).put kp (.cells [.int 7 term', .int 3 voted', vl', .ptr dp 0, .bool false])) := ((fr6.trans f7).put kpo kat7.lt).put kpo (by rw [Heap.n_put]; exact kat7.lt)
    refine ⟨_, O6, _, vl', fun d k => ?_, (s25.trans s6.with_).trans (f7.step.trans s8), Or.inr ⟨h60, ⟨fr9, D8, own6, hdid.jd, hdid.fuse, hdid.len.trans hlen, hdid.room.trans hroom, kpo, kpn6, ⟨g9, n9⟩, hl7.keep s8, ssOf_has (by rw [hdid.len]; omega) (by rw [hdid.len]; omega) (fun j hj => ?_), Y⟩, ?_⟩⟩
    · rw [if_neg h60]
      rw [← hsl] at h60
      have gk6 := kat6.get
      have gk7 := kat7.get
      have kn7 := kat7.lt
      have hi' := fun {id : Nat} {k : R} => is1_of hvl.one (id := id) (k := k)
      have z6' := fun {k : K} => z6 d k
      have z7' := fun {k : K} => z7 (d + 5) k
      have g7b : G6.get H.n = .cells [.int 7 term', .int 3 voted', v] := g6
      rw [call_entry T.k10 rfl rfl]
      simp only [go_sem, ↓op_app, reduceCtorEq, Nat.reduceAdd, Nat.reduceSub, Nat.reduceMul, Nat.reduceEqDiff, Nat.reduceDiv, Nat.reduceMod, Nat.reduceLeDiff, ↓reduceIte, c10, hw, hi, hG1]
      simp only [go_sem, ↓op_app, reduceCtorEq, Nat.reduceAdd, Nat.reduceSub, Nat.reduceMul, Nat.reduceEqDiff, Nat.reduceDiv, Nat.reduceMod, Nat.reduceLeDiff, ↓reduceIte, c10r1, c10r2, gk1, g1, hon, w1, kn1, hG2, gk2, g2]
      simp only [go_sem, ↓op_app, reduceCtorEq, Nat.reduceAdd, Nat.reduceSub, Nat.reduceMul, Nat.reduceEqDiff, Nat.reduceDiv, Nat.reduceMod, Nat.reduceLeDiff, ↓reduceIte, c10r3, c10r4, c10r5, g2, z3', g3, z4', hi, ↓hsv, e1]
      refine hL (d + 4) _ fuel _ (by omega) ?_ ?_ ?_ ?_ ?_ ?_ _ (fun e' q0 q3 q5 => ?_)
      · simp only [go_sem, reduceCtorEq, ↓reduceIte]
      · simp only [go_sem, reduceCtorEq, ↓reduceIte]
      · simp only [go_sem, reduceCtorEq, ↓reduceIte]
      · simp only [go_sem, reduceCtorEq, ↓reduceIte]
      · simp only [go_sem, reduceCtorEq, ↓reduceIte]
      · simp only [go_sem, reduceCtorEq, ↓reduceIte]
      simp only [go_sem, ↓op_app, reduceCtorEq, Nat.reduceAdd, Nat.reduceSub, Nat.reduceMul, Nat.reduceEqDiff, Nat.reduceDiv, Nat.reduceMod, Nat.reduceLeDiff, ↓reduceIte, c10r6, q0, q3, q5, ↓hsw, e2, e3, e4, h60]
      simp only [go_sem, ↓op_app, reduceCtorEq, Nat.reduceAdd, Nat.reduceSub, Nat.reduceMul, Nat.reduceEqDiff, Nat.reduceDiv, Nat.reduceMod, Nat.reduceLeDiff, ↓reduceIte, c10r7, c10r8, q0, q3, q5, gk5, z6', g7b, z7', hi, hi', gk7, w7, kn7]
      simp only [go_sem, ↓op_app, reduceCtorEq, Nat.reduceAdd, Nat.reduceSub, Nat.reduceMul, Nat.reduceEqDiff, Nat.reduceDiv, Nat.reduceMod, Nat.reduceLeDiff, ↓reduceIte, c10r9, c10r10, c10r11, q0, w7, kn7]
    · refine difW_laid (n := (ssOf term' voted' es').length) (hdid.yes h0).1 (by omega)
    · rw [← hsl]; exact (hdid.yes h0).1
end
end Go.Ev
end
