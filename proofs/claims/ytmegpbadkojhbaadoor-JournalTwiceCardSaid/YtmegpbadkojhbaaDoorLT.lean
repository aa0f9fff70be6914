/- LT: a part of the evaluator, of its logic, or of the laws' walk in it. -/
import Derived.Test.YtmegpbadkojhbaaDoorLD
import Derived.Test.YtmegpbadkojhbaaDoorLC
import Derived.OpenShut
set_option linter.unusedVariables false
set_option linter.unusedSimpArgs false
set_option linter.unusedSectionVars false
section
namespace Go.Ev
theorem updC_nodup : ∀ (D : List (Nat × Nat)) (a v : Nat), (D.map (·.1)).Nodup → ((updC D a v).map (·.1)).Nodup
  | [], a, v, _ => by simp [updC]
  | p :: D, a, v, h => by
    rw [List.map_cons, List.nodup_cons] at h
    simp only [updC]
    split
    · rename_i e
      rw [List.map_cons, List.nodup_cons]
      exact ⟨h.1, h.2⟩
    · rename_i e
      rw [List.map_cons, List.nodup_cons]
      refine ⟨fun hm => ?_, updC_nodup D a v h.2⟩
      rcases (mem_updC D a v p.1).1 hm with h1 | h1
      · exact e h1
      · exact h.1 h1
theorem frs_ok {es : List (Nat × Tx)} {ns : List Nat} {len : Nat} (hns : ∀ n ∈ ns, n < len) : ∀ m, m ≤ ns.length → ((frs es ns m).map (·.1)).Nodup ∧ ∀ k ∈ (frs es ns m).map (·.1), k < len ∧ (find es k).isSome = false
  | 0, _ => ⟨List.nodup_nil, fun k h => by cases h⟩
  | m + 1, hm => by
    obtain ⟨h1, h2⟩ := frs_ok (es := es) hns m (by omega)
    simp only [frs]
    split
    · exact ⟨h1, h2⟩
    · rename_i hs
      refine ⟨by rw [cnt]; exact updC_nodup _ _ _ h1, fun k hk => ?_⟩
      rw [cnt, mem_updC] at hk
      rcases hk with rfl | hk
      · have hg : ns.getD m 0 = ns[m] := by rw [List.getD_eq_getElem?_getD, List.getElem?_eq_getElem (by omega)]; rfl
        exact ⟨by rw [hg]; exact hns _ (List.getElem_mem _), by simpa using hs⟩
      · exact h2 k hk
theorem fits_all_room {A : AD} {ns : List Nat} (hk : EsOK A.len A.es) (hr : A.len ≤ A.room) (hns : ∀ n ∈ ns, n < A.len) : A.fits ns = true := by
  refine decide_eq_true (Or.inr ?_)
  obtain ⟨h1, h2⟩ := frs_ok (es := A.es) hns ns.length (Nat.le_refl _)
  have hn : (A.es.map (·.1) ++ (frs A.es ns ns.length).map (·.1)).Nodup := List.nodup_append.2 ⟨hk.nodup, h1, fun x hx y hy => by
    rintro rfl
    have := (h2 x hy).2
    rw [find_isSome.2 hx] at this; cases this⟩
  have hs : (A.es.map (·.1) ++ (frs A.es ns ns.length).map (·.1)) ⊆ List.range A.len := fun k hk' => by
    rw [List.mem_range]
    rcases List.mem_append.1 hk' with h | h
    · obtain ⟨e, he, rfl⟩ := List.mem_map.1 h; exact hk.lt e he
    · exact (h2 k h).1
  have := List.Nodup.length_le_of_subset hn hs
  simp only [List.length_append, List.length_map, List.length_range] at this
  omega
def code (len : Nat) (ws : List Wr) : Nat := if ws.length = 0 then 0 else if 60 < ws.length then 3 else if mayP len [] ws = false then 2 else 0
variable {pk : List UInt8 → List (List UInt8)} {unpk : List (List UInt8) → Option (List UInt8)}
theorem JD.code (F : FrameOK pk unpk) {A : AD} {a n : Nat} {us ws : List Wr} (J : JD pk A a n us) (hf : A.fuse = 0) (hr : A.len ≤ A.room) (hws : ∀ w ∈ ws, okT w.2) : (A.commit pk a ws).2 = Ev.code A.len ws := by
  unfold AD.commit Ev.code
  rw [if_neg (by rw [J.off]; exact Bool.false_ne_true)]
  by_cases h0 : ws.length = 0
  · rw [if_pos h0, if_pos h0]
  rw [if_neg h0, if_neg h0]
  by_cases h6 : 60 < ws.length
  · rw [if_pos h6, if_pos h6]
  rw [if_neg h6, if_neg h6]
  by_cases hm : mayP A.len [] ws = false
  · rw [if_pos hm, if_pos hm]
  rw [if_neg hm, if_neg hm]
  have hm : mayP A.len [] ws = true := by simpa using hm
  have hgood := (mayP_good hm).1
  have hrec : RecOK ws := ⟨by omega, fun w hw => by have := (hgood w hw).1.2.1; have := J.rec_.can.hi; omega, fun w hw => (hgood w hw).1.2.2, hws⟩
  have hnum := F.num _ hrec.text
  have hlo := J.rec_.can.lo
  rw [if_pos (fits_all_room J.keys hr fun n hn => ?_)]
  · exact (runs_calm hf).1
  · rcases List.mem_cons.1 hn with rfl | hn
    · omega
    · rw [List.map_append] at hn
      rcases List.mem_append.1 hn with h | h
      · obtain ⟨w, hw, rfl⟩ := List.mem_map.1 h
        obtain ⟨i, hi, rfl⟩ := outs_mem hw
        show 1 + (1 - a) * 72 + i < _
        have : (1 - a) ≤ 1 := by omega
        omega
      · obtain ⟨w, hw, rfl⟩ := List.mem_map.1 h
        exact (hgood w hw).1.2.1
theorem alike_commit (F : FrameOK pk unpk) {A B : AD} {a n b m : Nat} {us vs ws : List Wr} (J : JD pk A a n us) (K : JD pk B b m vs) (hf : A.fuse = 0) (hg : B.fuse = 0) (hr : A.len ≤ A.room) (hs : B.len ≤ B.room) (hl : A.len = B.len) (h : ∀ k, 145 ≤ k → find A.es k = find B.es k) (hws : ∀ w ∈ ws, okT w.2) :
    (A.commit pk a ws).2 = (B.commit pk b ws).2 ∧ ∀ k, 145 ≤ k → find (A.commit pk a ws).1.es k = find (B.commit pk b ws).1.es k := by
  have e1 := J.code F hf hr hws
  have e2 := K.code F hg hs hws
  have d1 := J.commit F hf hws
  have d2 := K.commit F hg hws
  rw [← hl] at e2
  refine ⟨e1.trans e2.symm, fun k hk => ?_⟩
  by_cases h0 : (A.commit pk a ws).2 = 0
  · rw [(d1.yes h0).1 k hk, (d2.yes (by rw [e2, ← e1]; exact h0)).1 k hk]
    exact find_laid_congr (h k hk)
  · rw [d1.no h0, d2.no (by rw [e2, ← e1]; exact h0)]
    exact h k hk
structure D3 (H0 G : Heap) (p q r : Nat) (A B C : AD) (O Q R : Nat → Prop) : Prop where
  f : Fresh H0 G
  dp : Disk G p A O
  dq : Disk G q B Q
  dr : Disk G r C R
  op : ∀ b, O b → H0.n ≤ b
  oq : ∀ b, Q b → H0.n ≤ b
  or : ∀ b, R b → H0.n ≤ b
  pq : ∀ b, O b → ¬ Q b
  pr : ∀ b, O b → ¬ R b
  qr : ∀ b, Q b → ¬ R b
variable {H0 G G' : Heap} {p q r : Nat} {A B C : AD} {O Q R : Nat → Prop}
theorem D3.fresh (h : D3 H0 G p q r A B C O Q R) (f : Fresh G G') : D3 H0 G' p q r A B C O Q R := ⟨h.f.trans f, h.dp.fresh f, h.dq.fresh f, h.dr.fresh f, h.op, h.oq, h.or, h.pq, h.pr, h.qr⟩
theorem D3.rot (h : D3 H0 G p q r A B C O Q R) : D3 H0 G q r p B C A Q R O := ⟨h.f, h.dq, h.dr, h.dp, h.oq, h.or, h.op, h.qr, fun b hb ho => h.pq b ho hb, fun b hb ho => h.pr b ho hb⟩
theorem D3.on (h : D3 H0 G p q r A B C O Q R) {A' : AD} {O' : Nat → Prop} (s : Step G O G' O') (d : Disk G' p A' O') : D3 H0 G' p q r A' B C O' Q R := by
  obtain ⟨k1, k2⟩ := h.dq.keep s fun b hb ho => h.pq b ho hb
  obtain ⟨k3, k4⟩ := h.dr.keep s fun b hb ho => h.pr b ho hb
  obtain ⟨f, o⟩ := h.f.own s h.op
  exact ⟨f, d, k1, k3, o, h.oq, h.or, fun b hb hq => k2 b hq hb, fun b hb hq => k4 b hq hb, h.qr⟩
end Go.Ev
end
section
namespace Go.Ev
section
variable {cp : RC → CodeE} {t : Nat → Option FnE} {fuel : Nat} {H : Heap} {pk : List UInt8 → List (List UInt8)} {unpk : List (List UInt8) → Option (List UInt8)}
theorem D3.wcommit (Q : TJ t pk unpk) {G : Heap} {p q r : Nat} {A B C : AD} {O Q1 R1 : Nat → Prop} (S : D3 H G p q r A B C O Q1 R1) {a n : Nat} {us : List Wr} (J : JD pk A a n us) {v : V} {ps : List Pt} (hv : PsAt H v ps) (hn : ps.length < 9223372036854775808) (hfu : 10000 < fuel) :
    ∃ G1 vw G2 O2, (∀ (d : Nat) (k : K), callP (evP cp t fuel (d + 1)) (.func 18 []) [v] G k = k vw G1) ∧ (∀ (d : Nat) (k : K), callP (evP cp t fuel (d + 7)) (.func 16 []) [.ptr p 0, vw] G1 k = k (.int 3 (A.commit pk a (wrsOf ps)).2) G2) ∧ D3 H G2 p q r (A.commit pk a (wrsOf ps)).1 B C O2 Q1 R1 := by
  obtain ⟨T, hc, F, hp, hu⟩ := Q
  obtain ⟨G1, vw, c1, f1, hg⟩ := writes_call (cp := cp) (fuel := fuel) T S.f.wf (hv.fresh S.f) hn (by omega)
  obtain ⟨w1, w2⟩ := wrsOf_ok ps hv.small
  have S1 := S.fresh f1
  obtain ⟨G2, O2, c2, s2, D2⟩ := commit_call (cp := cp) (fuel := fuel) T hc F hp S1.dp J.rec_.can (hg.at_ S.dp.lt) w2 (by omega) hfu
  exact ⟨G1, vw, G2, O2, c1, c2, S1.on s2 D2⟩
theorem D3.recover (Q : TJ t pk unpk) {G : Heap} {p q r : Nat} {A B C : AD} {O Q1 R1 : Nat → Prop} (S : D3 H G p q r A B C O Q1 R1) {a n : Nat} {us : List Wr} {g : Nat → Option Tx} (hR : RD pk A a n us g) (hf : A.fuse = 0) (hfu : 10000 < fuel) :
    ∃ G2 A2 O2, (∀ (d : Nat) (k : K), callP (evP cp t fuel (d + 7)) (.func 42 []) [.ptr p 0] G k = k (.int 3 0) G2) ∧ D3 H G2 p q r A2 B C O2 Q1 R1 ∧ JD pk A2 a n us ∧ A2.len = A.len ∧ A2.room = A.room ∧ A2.fuse = 0 ∧ ∀ k, 145 ≤ k → find A2.es k = g k := by
  obtain ⟨T, hc, F, hp, hu⟩ := Q
  obtain ⟨G1, O1, z1, s1, D1⟩ := recover_call (cp := cp) (fuel := fuel) T hc F hu S.dp hR.rec_ hfu
  have hz : (A.recover n us).1.fuse = 0 := by
    unfold AD.recover
    split
    · exact hf
    · split
      · exact hf
      · exact (runs_calm hf).2
  rcases hR.recover with ⟨r1, r2, r3, r4, r5⟩ | ⟨r0, _⟩
  · rw [r1] at z1
    exact ⟨G1, _, O1, z1, S.on s1 D1, r2, r3, r4, hz, r5⟩
  · exact absurd hf r0
theorem twice_end (Q : TJ t pk unpk) {G : Heap} {p q r : Nat} {A B C : AD} {O Q1 R1 : Nat → Prop} (S : D3 H G p q r A B C O Q1 R1) (oA : A.off = false) (oB : B.off = false) (oC : C.off = false) (lA : A.len = 200) (lB : B.len = 200) (lC : C.len = 200) {x y z : Nat} (h : (z = x ∧ A.kept = B.kept) ∨ (z = y ∧ A.kept = C.kept)) (hfu : 1000000 < fuel)
    {d : Nat} {e : Env} {kn : KE} {kx : Nat → KE} {X : R} (h7 : pget ⟨.i0, .i0, .i7⟩ e = .ptr p 0) (h10 : pget ⟨.i0, .i1, .i0⟩ e = .ptr q 0) (h11 : pget ⟨.i0, .i1, .i1⟩ e = .ptr r 0) (h12 : pget ⟨.i0, .i1, .i2⟩ e = .int 3 x) (h13 : pget ⟨.i0, .i1, .i3⟩ e = .int 3 y) (h15 : pget ⟨.i0, .i1, .i5⟩ e = .int 3 z)
    (hx : ∀ e' G', pget ⟨.i0, .i0, .i6⟩ e' = .bool true → Fresh H G' → kx 0 e' G' = X) : evC c5r15 fuel (evP cp t fuel (d + 9)) e G kn kx = X := by
  have Q' := Q
  obtain ⟨T, hc, F, hp, hu⟩ := Q'
  have kA := kept_len lA
  have kB := kept_len lB
  have kC := kept_len lC
  obtain ⟨G1, v1, z1, f1, g1⟩ := kept_call (cp := cp) (fuel := fuel) T hc S.dp oA (by omega) (by omega) (by omega)
  have s1 := g1.at_ (O := fun _ => False) (fun b hb => hb.elim)
  have S1 := S.fresh f1
  obtain ⟨G2, v2, z2, f2, g2⟩ := kept_call (cp := cp) (fuel := fuel) T hc S1.dq oB (by omega) (by omega) (by omega)
  have s2 := g2.at_ (O := fun _ => False) (fun b hb => hb.elim)
  have S2 := S1.fresh f2
  have c2 := fun {d : Nat} {k : K} => alike_call (cp := cp) (fuel := fuel) T f2.wf (s1.fresh f2) s2 (by omega) (by omega) hfu d k
  have z1' := fun {d : Nat} {k : K} => z1 (d + 5) k
  have z2' := fun {d : Nat} {k : K} => z2 (d + 5) k
  by_cases hzx : z = x
  · subst hzx
    by_cases hk : A.kept = B.kept
    · rw [decide_eq_true hk] at c2
      obtain ⟨G4, z4, f4⟩ := works_call (cp := cp) (fuel := fuel) Q f2.wf (by omega)
      simp only [go_sem, reduceCtorEq, Nat.reduceAdd, Nat.reduceSub, Nat.reduceMul, Nat.reduceEqDiff, Nat.reduceLT, Nat.reduceDiv, Nat.reduceMod, Nat.reduceLeDiff, ↓reduceIte, c5r15, c5r16, c5r17, h7, h10, h11, h12, h13, h15, z1', z2', c2, z4]
      exact hx _ _ (by simp only [go_sem, reduceCtorEq, ↓reduceIte]) (S2.f.trans f4)
    · obtain ⟨hzy, hk2⟩ := h.resolve_left (fun h => hk h.2)
      subst hzy
      rw [decide_eq_false hk] at c2
      obtain ⟨G3, v3, z3, f3, g3⟩ := kept_call (cp := cp) (fuel := fuel) T hc S2.dr oC (by omega) (by omega) (by omega)
      have s3 := g3.at_ (O := fun _ => False) (fun b hb => hb.elim)
      have c3 := fun {d : Nat} {k : K} => alike_call (cp := cp) (fuel := fuel) T f3.wf ((s1.fresh f2).fresh f3) s3 (by omega) (by omega) hfu d k
      rw [decide_eq_true hk2] at c3
      have z3' := fun {d : Nat} {k : K} => z3 (d + 5) k
      obtain ⟨G4, z4, f4⟩ := works_call (cp := cp) (fuel := fuel) Q f3.wf (by omega)
      simp only [go_sem, reduceCtorEq, Nat.reduceAdd, Nat.reduceSub, Nat.reduceMul, Nat.reduceEqDiff, Nat.reduceLT, Nat.reduceDiv, Nat.reduceMod, Nat.reduceLeDiff, ↓reduceIte, c5r15, c5r16, c5r17, h7, h10, h11, h12, h13, h15, z1', z2', c2, z3', c3, z4]
      exact hx _ _ (by simp only [go_sem, reduceCtorEq, ↓reduceIte]) ((S2.f.trans f3).trans f4)
  · obtain ⟨hzy, hk2⟩ := h.resolve_left (fun h => hzx h.1)
    subst hzy
    obtain ⟨G3, v3, z3, f3, g3⟩ := kept_call (cp := cp) (fuel := fuel) T hc S1.dr oC (by omega) (by omega) (by omega)
    have s3 := g3.at_ (O := fun _ => False) (fun b hb => hb.elim)
    have c3 := fun {d : Nat} {k : K} => alike_call (cp := cp) (fuel := fuel) T f3.wf (s1.fresh f3) s3 (by omega) (by omega) hfu d k
    rw [decide_eq_true hk2] at c3
    have z3' := fun {d : Nat} {k : K} => z3 (d + 5) k
    obtain ⟨G4, z4, f4⟩ := works_call (cp := cp) (fuel := fuel) Q f3.wf (by omega)
    simp only [go_sem, reduceCtorEq, Nat.reduceAdd, Nat.reduceSub, Nat.reduceMul, Nat.reduceEqDiff, Nat.reduceLT, Nat.reduceDiv, Nat.reduceMod, Nat.reduceLeDiff, ↓reduceIte, c5r15, c5r16, c5r17, h7, h10, h11, h12, h13, h15, hzx, z1', z3', c3, z4]
    exact hx _ _ (by simp only [go_sem, reduceCtorEq, ↓reduceIte]) ((S1.f.trans f3).trans f4)
end
end Go.Ev
end
section
namespace Go.Ev
section
variable {cp : RC → CodeE} {t : Nat → Option FnE} {fuel : Nat} {H : Heap} {pk : List UInt8 → List (List UInt8)} {unpk : List (List UInt8) → Option (List UInt8)}
theorem keep5 {v : V} {bs : List Bool} (hk : KpAt H v bs) (hc : CapOK v) (hb : bs.length < 9223372036854775808) : ∃ v', KpAt H v' (bs.take 300) ∧ ∀ {ph : Phi} {e : Env} {kn : KE} {kx : Nat → KE} {G : Heap} {x : R} {X p : Nat} {a0 a1 a2 : V}, G.get X = .cells [a0, a1, a2, v] → pget ⟨.i0, .i0, .i5⟩ e = .ptr X 0 → pget ⟨.i0, .i0, .i7⟩ e = .ptr p 0 →
    (∀ e', (∀ b c, ¬ (b = .i7 ∧ c = .i7) → pget ⟨.i0, b, c⟩ e' = pget ⟨.i0, b, c⟩ e) → callP ph (.func 40 []) [.ptr p 0, v'] G (fun v H => evC c5r12 fuel ph (pset ⟨.i1, .i0, .i7⟩ v e') H kn kx) = x) →
    evC c5r11 fuel ph e G kn kx = x := by
  have fin : ∀ {ph : Phi} {e : Env} {kn : KE} {kx : Nat → KE} {G : Heap} {x : R} {p : Nat} {v0 v1 v2 v3 v4 v5 v6 v7 : V}, (∀ e', (∀ b c, ¬ (b = .i7 ∧ c = .i7) → pget ⟨.i0, b, c⟩ e' = pget ⟨.i0, b, c⟩ e) → callP ph (.func 40 []) [.ptr p 0, v0] G (fun v H => evC c5r12 fuel ph (pset ⟨.i1, .i0, .i7⟩ v e') H kn kx) = x) →
      callP ph (.func 40 []) [.ptr p 0, v0] G (fun v H => evC c5r12 fuel ph (pset ⟨.i1, .i0, .i7⟩ v (pset ⟨.i1, .i0, .i6⟩ v0 (pset ⟨.i1, .i0, .i5⟩ v1 (pset ⟨.i1, .i0, .i4⟩ v2 (pset ⟨.i1, .i0, .i3⟩ v3 (pset ⟨.i1, .i0, .i2⟩ v4 (pset ⟨.i1, .i0, .i1⟩ v5 (pset ⟨.i1, .i0, .i0⟩ v6 (pset ⟨.i0, .i7, .i7⟩ v7 e))))))))) H kn kx) = x := fun h => h _ (fun b c hb => by simp only [go_sem, reduceCtorEq, Nat.reduceAdd, Nat.reduceSub, Nat.reduceMul, Nat.reduceEqDiff, Nat.reduceLT, Nat.reduceDiv, Nat.reduceMod, Nat.reduceLeDiff, ↓reduceIte, hb])
  have n0 : nn 0 := by unfold nn; omega
  have n3 : nn 300 := by unfold nn; omega
  have nl : nn bs.length := by unfold nn; omega
  have m0 : min 0 300 = 0 := rfl
  have z9 : (0 : Nat) < 9223372036854775808 := by omega
  have hone : v.one = true := by rcases hk with ⟨rfl | ⟨_, _, _, _, rfl⟩, _⟩ | ⟨_, _, _, _, _, rfl, _⟩ <;> rfl
  have i1 : ∀ {id : Nat} {k : R}, isOne id v k = k := fun {id k} => by have h := hone; revert h; cases v <;> intro h <;> first | rfl | cases h
  rcases hk with ⟨rfl | ⟨b, o, c, s, rfl⟩, rfl⟩ | ⟨b, o, c, s, row, rfl, hrow, hbn, hr⟩
  · refine ⟨.nils, Or.inl ⟨Or.inl rfl, rfl⟩, fun hG h5 h7 h => ?_⟩
    simp only [go_sem, reduceCtorEq, Nat.reduceAdd, Nat.reduceSub, Nat.reduceMul, Nat.reduceEqDiff, Nat.reduceLT, Nat.reduceDiv, Nat.reduceMod, Nat.reduceLeDiff, ↓reduceIte, c5r11, hG, h5, h7, i1, n0, n3, m0]
    exact fin h
  · obtain ⟨b', o', n', c', s', he, hcc⟩ := hc.resolve_left (by simp)
    simp only [V.slice.injEq] at he
    obtain ⟨rfl, rfl, rfl, rfl, rfl⟩ := he
    rcases hcc with ⟨rfl, rfl⟩ | ⟨hc0, hcn⟩
    · refine ⟨.slice b o 0 0 1, Or.inl ⟨Or.inr ⟨_, _, _, _, rfl⟩, rfl⟩, fun hG h5 h7 h => ?_⟩
      simp only [go_sem, reduceCtorEq, Nat.reduceAdd, Nat.reduceSub, Nat.reduceMul, Nat.reduceEqDiff, Nat.reduceLT, Nat.reduceDiv, Nat.reduceMod, Nat.reduceLeDiff, ↓reduceIte, c5r11, hG, h5, h7, i1, n0, n3, m0, z9]
      exact fin h
    · by_cases hc1 : c - 1 = 0
      · refine ⟨.slice b o 0 1 0, Or.inl ⟨Or.inr ⟨_, _, _, _, rfl⟩, rfl⟩, fun hG h5 h7 h => ?_⟩
        simp only [go_sem, reduceCtorEq, Nat.reduceAdd, Nat.reduceSub, Nat.reduceMul, Nat.reduceEqDiff, Nat.reduceLT, Nat.reduceDiv, Nat.reduceMod, Nat.reduceLeDiff, ↓reduceIte, c5r11, hG, h5, h7, i1, n0, n3, m0, hc0, hc1, z9]
        exact fin h
      · refine ⟨.slice b o 0 (c - 1 + 1) 0, Or.inl ⟨Or.inr ⟨_, _, _, _, rfl⟩, rfl⟩, fun hG h5 h7 h => ?_⟩
        simp only [go_sem, reduceCtorEq, Nat.reduceAdd, Nat.reduceSub, Nat.reduceMul, Nat.reduceEqDiff, Nat.reduceLT, Nat.reduceDiv, Nat.reduceMod, Nat.reduceLeDiff, ↓reduceIte, c5r11, hG, h5, h7, i1, n0, n3, m0, hc0, hc1, z9, Nat.sub_zero]
        exact fin h
  · obtain ⟨b', o', n', c', s', he, hcc⟩ := hc.resolve_left (by simp)
    simp only [V.slice.injEq] at he
    obtain ⟨rfl, rfl, rfl, rfl, rfl⟩ := he
    have hm : min bs.length 300 ≤ bs.length := Nat.min_le_left _ _
    have hmz : min bs.length 300 < 9223372036854775808 := by omega
    have ht : (bs.take 300).length = min bs.length 300 := by rw [List.length_take, Nat.min_comm]
    have hr' : ∀ i x, (bs.take 300)[i]? = some x → row[o + i]? = some (.bool x) := fun i x h => hr i x (by
      rw [List.getElem?_take] at h
      split at h
      · exact h
      · cases h)
    rcases hcc with ⟨rfl, rfl⟩ | ⟨hc0, hcn⟩
    · refine ⟨.slice b o (min bs.length 300) 0 1, Or.inr ⟨b, o, 0, 1, row, by rw [ht], hrow, hbn, hr'⟩, fun hG h5 h7 h => ?_⟩
      simp only [go_sem, reduceCtorEq, Nat.reduceAdd, Nat.reduceSub, Nat.reduceMul, Nat.reduceEqDiff, Nat.reduceLT, Nat.reduceDiv, Nat.reduceMod, Nat.reduceLeDiff, ↓reduceIte, c5r11, hG, h5, h7, i1, nl, n3, hb, hm, hmz, Nat.sub_zero]
      exact fin h
    · by_cases hc1 : c - 1 = 0
      · obtain rfl : bs = [] := List.eq_nil_of_length_eq_zero (by omega)
        refine ⟨.slice b o 0 1 0, Or.inl ⟨Or.inr ⟨_, _, _, _, rfl⟩, rfl⟩, fun hG h5 h7 h => ?_⟩
        simp only [go_sem, reduceCtorEq, Nat.reduceAdd, Nat.reduceSub, Nat.reduceMul, Nat.reduceEqDiff, Nat.reduceLT, Nat.reduceDiv, Nat.reduceMod, Nat.reduceLeDiff, ↓reduceIte, c5r11, hG, h5, h7, i1, n0, n3, m0, hc0, hc1, z9]
        exact fin h
      · refine ⟨.slice b o (min bs.length 300) (c - 1 + 1) 0, Or.inr ⟨b, o, c - 1 + 1, 0, row, by rw [ht], hrow, hbn, hr'⟩, fun hG h5 h7 h => ?_⟩
        have hmc : min bs.length 300 ≤ c - 1 := by omega
        simp only [go_sem, reduceCtorEq, Nat.reduceAdd, Nat.reduceSub, Nat.reduceMul, Nat.reduceEqDiff, Nat.reduceLT, Nat.reduceDiv, Nat.reduceMod, Nat.reduceLeDiff, ↓reduceIte, c5r11, hG, h5, h7, i1, nl, n3, hb, hm, hmz, hmc, hc0, hc1, Nat.sub_zero]
        exact fin h
set_option maxHeartbeats 2000000 in
theorem twice_tail (Q : TJ t pk unpk) (hcm : t 40 = some (.nat nCopyM)) (hca : cp r20.1 = c20a) (hcb : cp r20.2 = c20b)
    {G : Heap} {p q r : Nat} {A B C : AD} {O Q1 R1 : Nat → Prop} (S : D3 H G p q r A B C O Q1 R1) (ho : A.off = true) (hus : A.us.length < 1000000) (hes : A.es.length < 1000000) (hl : A.len = 200) (hr : A.room = 200) (hf : A.fuse = 0) {bs : List Bool}
    {W Z : AD} {wa wn va' vn : Nat} {wu vu : List Wr} {vc : V} {ps : List Pt} (hvc : PsAt H vc ps) (hnc : ps.length < 9223372036854775808) (JW : JD pk W wa wn wu) (JV : JD pk Z va' vn vu) (fW : W.fuse = 0) (fV : Z.fuse = 0) (lW : W.len = 200) (lV : Z.len = 200) (rW : W.room = 200) (rV : Z.room = 200) (eB : B = (W.commit pk wa (wrsOf ps)).1) (eC : C = (Z.commit pk va' (wrsOf ps)).1) {x y : Nat} (ex : x = (W.commit pk wa (wrsOf ps)).2) (ey : y = (Z.commit pk va' (wrsOf ps)).2)
    (hn : ∃ a n us g, RD pk (A.wake (bs.take 300)) a n us g ∧ ((∀ k, 145 ≤ k → g k = find W.es k) ∨ (∀ k, 145 ≤ k → g k = find Z.es k)))
    {a0 a1 a2 vk : V} {X : Nat} (hk : KpAt H vk bs) (hkc : CapOK vk) (hkb : bs.length < 9223372036854775808) (hX : H.get X = .cells [a0, a1, a2, vk]) (hXn : X < H.n) (hfu : 1000000 < fuel)
    {d : Nat} {e : Env} {kn : KE} {kx : Nat → KE} {XX : R} (h1 : pget ⟨.i0, .i0, .i1⟩ e = vc) (h5 : pget ⟨.i0, .i0, .i5⟩ e = .ptr X 0) (h7 : pget ⟨.i0, .i0, .i7⟩ e = .ptr p 0) (h10 : pget ⟨.i0, .i1, .i0⟩ e = .ptr q 0) (h11 : pget ⟨.i0, .i1, .i1⟩ e = .ptr r 0) (h12 : pget ⟨.i0, .i1, .i2⟩ e = .int 3 x) (h13 : pget ⟨.i0, .i1, .i3⟩ e = .int 3 y)
    (hx : ∀ e' G', pget ⟨.i0, .i0, .i6⟩ e' = .bool true → Fresh H G' → kx 0 e' G' = XX) : evC c5r11 fuel (evP cp t fuel (d + 9)) e G kn kx = XX := by
  have Q' := Q
  obtain ⟨T, hc, F, hp, hu⟩ := Q'
  obtain ⟨w1, w2⟩ := wrsOf_ok ps hvc.small
  have w3 : ∀ w ∈ wrsOf ps, okT w.2 := fun w hw => (w2 w hw).2.2
  obtain ⟨vk', hk', hkeep⟩ := keep5 (fuel := fuel) hk hkc hkb
  refine hkeep ((S.f.same X hXn).trans hX) h5 h7 fun e1 q1 => ?_
  have hkl : (bs.take 300).length < 9223372036854775808 := by rw [List.length_take]; omega
  refine wake_call (d := d + 6) T hcm hca hcb S.dp ho hus hes (hk'.fresh S.f) hkl hfu _ _ fun G1 O1 s1 D1 => ?_
  have S1 := S.on s1 D1
  obtain ⟨a, n, us, g, hR, hg⟩ := hn
  obtain ⟨G2, A2, O2, z2, S2, J2, l2, r2, f2, e2⟩ := S1.recover (cp := cp) (fuel := fuel) Q hR hf (by omega)
  obtain ⟨G3, A3, O3, z3, S3, J3, l3, r3, f3, e3⟩ := S2.recover (cp := cp) (fuel := fuel) Q J2.rd f2 (by omega)
  obtain ⟨G4, vw, G5, O5, z4, z5, S5⟩ := S3.wcommit (cp := cp) (fuel := fuel) Q J3 hvc hnc (by omega)
  have d5 := J3.commit F f3 (ws := wrsOf ps) w3
  obtain ⟨a5, n5, u5, J5⟩ := d5.jd
  have hon := fun {d : Nat} {k : K} => on_call' (cp := cp) (fuel := fuel) Q S5.dp (b := true) (by rw [J5.off]; rfl) (d := d) (k := k)
  obtain ⟨G6, A6, O6, z6, S6, J6, l6, r6, f6, e6⟩ := S5.recover (cp := cp) (fuel := fuel) Q J5.rd d5.fuse (by omega)
  have l3' : A3.len = 200 := l3.trans (l2.trans hl)
  have r3' : A3.room = 200 := r3.trans (r2.trans hr)
  have l6' : A6.len = 200 := l6.trans (d5.len.trans l3')
  have dW := JW.commit F fW (ws := wrsOf ps) w3
  have dV := JV.commit F fV (ws := wrsOf ps) w3
  obtain ⟨_, _, _, KW⟩ := dW.jd
  obtain ⟨_, _, _, KV⟩ := dV.jd
  have lB : B.len = 200 := by rw [eB]; exact dW.len.trans lW
  have lC : C.len = 200 := by rw [eC]; exact dV.len.trans lV
  have hend : ((A3.commit pk a (wrsOf ps)).2 = x ∧ A6.kept = B.kept) ∨ ((A3.commit pk a (wrsOf ps)).2 = y ∧ A6.kept = C.kept) := by
    rcases hg with h | h
    · left
      obtain ⟨c1, c2⟩ := alike_commit F J3 JW f3 fW (by omega) (by omega) (l3'.trans lW.symm) (fun k hk => ((e3 k hk).trans (e2 k hk)).trans (h k hk)) w3
      exact ⟨c1.trans ex.symm, kept_eq (l6'.trans lB.symm) fun k hk => by rw [eB]; exact (e6 k hk).trans (c2 k hk)⟩
    · right
      obtain ⟨c1, c2⟩ := alike_commit F J3 JV f3 fV (by omega) (by omega) (l3'.trans lV.symm) (fun k hk => ((e3 k hk).trans (e2 k hk)).trans (h k hk)) w3
      exact ⟨c1.trans ey.symm, kept_eq (l6'.trans lC.symm) fun k hk => by rw [eC]; exact (e6 k hk).trans (c2 k hk)⟩
  have t1 := (q1 .i0 .i1 (by simp)).trans h1
  have t7 := (q1 .i0 .i7 (by simp)).trans h7
  have t10 := (q1 .i1 .i0 (by simp)).trans h10
  have t11 := (q1 .i1 .i1 (by simp)).trans h11
  have t12 := (q1 .i1 .i2 (by simp)).trans h12
  have t13 := (q1 .i1 .i3 (by simp)).trans h13
  have z2' := fun {d : Nat} {k : K} => z2 (d + 2) k
  have z3' := fun {d : Nat} {k : K} => z3 (d + 2) k
  have z4' := fun {d : Nat} {k : K} => z4 (d + 8) k
  have z5' := fun {d : Nat} {k : K} => z5 (d + 2) k
  have z6' := fun {d : Nat} {k : K} => z6 (d + 2) k
  have hon' := fun {d : Nat} {k : K} => hon (d := d + 7) (k := k)
  simp only [go_sem, reduceCtorEq, Nat.reduceAdd, Nat.reduceSub, Nat.reduceMul, Nat.reduceEqDiff, Nat.reduceLT, Nat.reduceDiv, Nat.reduceMod, Nat.reduceLeDiff, ↓reduceIte, c5r12, c5r13, c5r14, t1, t7, t10, t11, t12, t13, z2', z3', z4', z5', z6', hon]
  refine twice_end Q S6 J6.off (by rw [eB]; exact KW.off) (by rw [eC]; exact KV.off) l6' lB lC hend hfu ?_ ?_ ?_ ?_ ?_ ?_ hx
  · simp only [go_sem, reduceCtorEq, ↓reduceIte, t7]
  · simp only [go_sem, reduceCtorEq, ↓reduceIte, t10]
  · simp only [go_sem, reduceCtorEq, ↓reduceIte, t11]
  · simp only [go_sem, reduceCtorEq, ↓reduceIte, t12]
  · simp only [go_sem, reduceCtorEq, ↓reduceIte, t13]
  · simp only [go_sem, reduceCtorEq, ↓reduceIte]
end
end Go.Ev
end
section
namespace Go.Ev
section
variable {cp : RC → CodeE} {t : Nat → Option FnE} {fuel : Nat} {H : Heap} {pk : List UInt8 → List (List UInt8)} {unpk : List (List UInt8) → Option (List UInt8)}
theorem off_all (T : TCode t) {p : Nat} {A : AD} {O : Nat → Prop} (h : Disk H p A O) :
    ∃ H', (∀ (d : Nat) (k : K), callP (evP cp t fuel (d + 1)) (.func 44 []) [.ptr p 0] H k = k (.tup []) H') ∧ Disk H' p { A with fuse := 0, off := true } O ∧ Step H O H' O := by
  obtain ⟨D, h, h1, h2, h3, h4, rfl⟩ := h
  obtain ⟨g1, g2⟩ := Disk.put h (r := D.room) (f := 0) (o := true) h.hr (by unfold nn; omega)
  have hw := h.wf
  have hp := h.hp
  have hg := h.hg
  refine ⟨_, fun d k => ?_, ⟨_, g1, h1, h2, rfl, rfl, rfl⟩, g2⟩
  simp only [DR.blk] at hg
  rw [call_entry T.k22 rfl rfl]
  simp only [go_sem, reduceCtorEq, Nat.reduceAdd, Nat.reduceSub, Nat.reduceMul, Nat.reduceEqDiff, Nat.reduceLT, Nat.reduceDiv, Nat.reduceMod, Nat.reduceLeDiff, ↓reduceIte, c22, DR.blk, hg, hw, hp]
theorem wake_off {A : AD} (ho : A.off = false) (hu : A.us = []) (bs : List Bool) : ({ A with fuse := 0, off := true } : AD).wake bs = { A with fuse := 0 } := by
  cases A
  simp only at ho hu
  subst ho hu
  rfl
set_option maxHeartbeats 2000000 in
theorem journalTwice_call (Q : TJ t pk unpk) (hcm : t 40 = some (.nat nCopyM)) (hca : cp r20.1 = c20a) (hcb : cp r20.2 = c20b)
    (hw : H.wf) {va vc vL vk : V} {f0 f1 : Nat} {psa psc ps : List Pt} {bs : List Bool} (hva : PsAt H va psa) (hna : psa.length < 9223372036854775808) (hvc : PsAt H vc psc) (hnc : psc.length < 9223372036854775808) (hvL : PsAt H vL ps) (hn1 : ps.length < 9223372036854775808) (hk : KpAt H vk bs) (hkc : CapOK vk) (hkb : bs.length < 9223372036854775808) (hf0 : f0 < 256) (hf1 : f1 < 256) (hfu : 1000000 < fuel)
    (d : Nat) (k : K) (x : R) (hx : ∀ H', Fresh H H' → k (.bool true) H' = x) : callP (evP cp t fuel (d + 10)) (.func 10 []) [va, vc, .agg [vL, .int 4 f0, .int 4 f1, vk]] H k = x := by
  have Q' := Q
  obtain ⟨T, hc, F, hp, hu⟩ := Q'
  have oL : vL.one = true := by rcases hvL with ⟨rfl | ⟨_, _, _, _, rfl⟩, _⟩ | ⟨_, _, _, _, _, rfl, _⟩ <;> rfl
  have ok : vk.one = true := by rcases hk with ⟨rfl | ⟨_, _, _, _, rfl⟩, _⟩ | ⟨_, _, _, _, _, rfl, _⟩ <;> rfl
  have i1 : ∀ {id : Nat} {k : R}, isOne id vL k = k := fun {id k} => by revert oL; cases vL <;> intro h <;> first | rfl | cases h
  have i2 : ∀ {id : Nat} {k : R}, isOne id vk k = k := fun {id k} => by revert ok; cases vk <;> intro h <;> first | rfl | cases h
  have fB : Fresh H (H.new (.cells [vL, .int 4 f0, .int 4 f1, vk])) := Fresh.new hw
  have gX : (H.new (.cells [vL, .int 4 f0, .int 4 f1, vk])).get H.n = .cells [vL, .int 4 f0, .int 4 f1, vk] := by rw [Heap.get_new hw, if_pos rfl]
  have gn : H.n < (H.new (.cells [vL, .int 4 f0, .int 4 f1, vk])).n := by rw [Heap.n_new]; omega
  rw [call_entry T.k5 rfl rfl]
  simp only [go_sem, reduceCtorEq, Nat.reduceAdd, Nat.reduceSub, Nat.reduceMul, Nat.reduceEqDiff, Nat.reduceLT, Nat.reduceDiv, Nat.reduceMod, Nat.reduceLeDiff, ↓reduceIte, c5, hw, i1, i2]
  generalize H.new (.cells [vL, .int 4 f0, .int 4 f1, vk]) = HB at fB gX gn ⊢
  obtain ⟨H1, p, O1, z1, S1⟩ := jready (cp := cp) (fuel := fuel) Q fB.wf (by omega)
  obtain ⟨G1, vw1, H2, A1, O2, z2, z3, d2, S2, s2⟩ := jcommit (cp := cp) (fuel := fuel) Q S1 (hva.fresh fB) hna (by omega)
  have rA : A1.1.room = 200 := d2.room.trans (A0_ok pk).2.2.2.1
  obtain ⟨f2, D2, o2, ⟨a, n, us, J⟩, fA, lA⟩ := S2
  generalize A1.1 = A at d2 D2 J fA lA rA
  generalize A1.2 = eA at z3
  obtain ⟨H3, q, O3, z4, D3', f3, o3⟩ := copy_all (cp := cp) (fuel := fuel) (T.disk4 hc) D2 (by rw [J.us]; show 0 < _; omega)
  obtain ⟨H4, r, O4, z5, D4, f4, o4⟩ := copy_all (cp := cp) (fuel := fuel) (T.disk4 hc) (D2.fresh f3) (by rw [J.us]; show 0 < _; omega)
  have l2 := D2.lt
  have l3 := D3'.lt
  have S4 : D3 HB H4 p q r A A A O2 O3 O4 := ⟨(f2.trans f3).trans f4, (D2.fresh f3).fresh f4, D3'.fresh f4, D4, o2, fun b hb => by have := o3 b hb; have := f2.n; omega, fun b hb => by have := o4 b hb; have := f2.n; have := f3.n; omega, fun b hb hb' => by have := l2 b hb; have := o3 b hb'; omega, fun b hb hb' => by have := l2 b hb; have := o4 b hb'; have := f3.n; omega, fun b hb hb' => by have := l3 b hb; have := o4 b hb'; omega⟩
  obtain ⟨w1, w2⟩ := wrsOf_ok ps hvL.small
  obtain ⟨w3, w4⟩ := wrsOf_ok psc hvc.small
  -- with
  obtain ⟨G5, vw5, H5, O5, z6, z7, S5⟩ := S4.rot.wcommit (cp := cp) (fuel := fuel) Q J (hvL.fresh fB) hn1 (by omega)
  have dW := J.commit F fA (ws := wrsOf ps) fun w hw => (w2 w hw).2.2
  obtain ⟨a1, n1, u1, J1⟩ := dW.jd
  obtain ⟨G6, vw6, H6, O6, z8, z9, S6⟩ := S5.wcommit (cp := cp) (fuel := fuel) Q J1 (hvc.fresh fB) hnc (by omega)
  -- without
  obtain ⟨G7, vw7, H7, O7, z10, z11, S7⟩ := S6.rot.wcommit (cp := cp) (fuel := fuel) Q J (hvc.fresh fB) hnc (by omega)
  have S7' := S7.rot
  -- Arm, the commit
  obtain ⟨H8, z12, D8, s8⟩ := arm_all (cp := cp) (fuel := fuel) (r := 1 + f0) T S7'.dp (by unfold nn; omega)
  have S8 := S7'.on s8 D8
  have J8 := J.with_fuse (f := 1 + f0)
  obtain ⟨G9, vw9, H9, O9, z13, z14, S9⟩ := S8.wcommit (cp := cp) (fuel := fuel) Q J8 (hvL.fresh fB) hn1 (by omega)
  have hany := J8.commit_any F (ws := wrsOf ps) fun w hw => (w2 w hw).2.2
  have hz : ({ ({ A with fuse := 1 + f0 } : AD) with fuse := 0 } : AD) = A := by cases A; simp only at fA; subst fA; rfl
  rw [hz] at hany
  generalize ({ A with fuse := 1 + f0 } : AD).commit pk a (wrsOf ps) = B at *
  have z1' := fun {d : Nat} {k : K} => z1 (d + 1) k
  have z2' := fun {d : Nat} {k : K} => z2 (d + 8) k
  have z3' := fun {d : Nat} {k : K} => z3 (d + 2) k
  have z4' := fun {d : Nat} {k : K} => z4 (d + 7) k
  have z5' := fun {d : Nat} {k : K} => z5 (d + 7) k
  have z6' := fun {d : Nat} {k : K} => z6 (d + 8) k
  have z7' := fun {d : Nat} {k : K} => z7 (d + 2) k
  have z8' := fun {d : Nat} {k : K} => z8 (d + 8) k
  have z9' := fun {d : Nat} {k : K} => z9 (d + 2) k
  have z10' := fun {d : Nat} {k : K} => z10 (d + 8) k
  have z11' := fun {d : Nat} {k : K} => z11 (d + 2) k
  have z12' := fun {d : Nat} {k : K} => z12 (d + 8) k
  have z13' := fun {d : Nat} {k : K} => z13 (d + 8) k
  have z14' := fun {d : Nat} {k : K} => z14 (d + 2) k
  have x4 : H4.get H.n = .cells [vL, .int 4 f0, .int 4 f1, vk] := (S4.f.same _ gn).trans gX
  have x7 : H7.get H.n = .cells [vL, .int 4 f0, .int 4 f1, vk] := (S7.f.same _ gn).trans gX
  have x8 : H8.get H.n = .cells [vL, .int 4 f0, .int 4 f1, vk] := (S8.f.same _ gn).trans gX
  have e2 : (f0 : Nat) % 18446744073709551616 = f0 := by omega
  have e3 : (1 + f0) % 18446744073709551616 = 1 + f0 := by omega
  simp only [go_sem, reduceCtorEq, Nat.reduceAdd, Nat.reduceSub, Nat.reduceMul, Nat.reduceEqDiff, Nat.reduceLT, Nat.reduceDiv, Nat.reduceMod, Nat.reduceLeDiff, ↓reduceIte, c5r1, c5r2, c5r3, c5r4, c5r5, c5r6, c5r7, c5r8, c5r9, c5r10, i1, i2, z1', z2', z3', z4', z5', x4, z6', z7', z8', z9', z10', z11', x7, e2, e3, z12', x8, z13', z14']
  have hdone : ∀ e' G', pget ⟨.i0, .i0, .i6⟩ e' = .bool true → Fresh HB G' → retF [.tmp ⟨.i0, .i0, .i6⟩] k e' G' = x := fun e' G' q1 q2 => by
    simp only [go_sem, reduceCtorEq, Nat.reduceAdd, Nat.reduceSub, Nat.reduceMul, Nat.reduceEqDiff, Nat.reduceLT, Nat.reduceDiv, Nat.reduceMod, Nat.reduceLeDiff, ↓reduceIte, q1]
    exact hx _ (fB.trans q2)
  rcases hany with ⟨b1, b2, b3, b4, b5, bn, bm, bu, b6⟩ | ⟨⟨b1, b2, b3, b4, b5, b6, b7, b8, b9⟩, b10⟩
  · have hon := fun {d : Nat} {k : K} => on_call' (cp := cp) (fuel := fuel) Q S9.dp (b := true) (by rw [b1]; rfl) (d := d) (k := k)
    obtain ⟨H10, z15, D10, s10⟩ := off_all (cp := cp) (fuel := fuel) T S9.dp
    have S10 := S9.on s10 D10
    have z15' := fun {d : Nat} {k : K} => z15 (d + 8) k
    simp only [go_sem, reduceCtorEq, Nat.reduceAdd, Nat.reduceSub, Nat.reduceMul, Nat.reduceEqDiff, Nat.reduceLT, Nat.reduceDiv, Nat.reduceMod, Nat.reduceLeDiff, ↓reduceIte, hon, z15']
    have hkl := b6.keys.length
    have hlB : B.1.len = 200 := b3.trans lA
    have hJ0 := b6.with_fuse (f := 0)
    refine twice_tail Q hcm hca hcb S10 rfl (by show B.1.us.length < _; rw [b6.us]; show 0 < _; omega) (by show B.1.es.length < _; omega) (b3.trans lA) (b4.trans rA) rfl (W := (A.commit pk a (wrsOf ps)).1) (Z := A) (hvc.fresh fB) hnc J1 J dW.fuse fA (dW.len.trans lA) lA (dW.room.trans rA) rA rfl rfl rfl rfl ⟨_, _, _, _, by rw [wake_off b6.off b6.us]; exact hJ0.rd, Or.inl fun k _ => by show find B.1.es k = _; rw [b5]⟩ (hk.fresh fB) hkc hkb gX gn hfu ?_ ?_ ?_ ?_ ?_ ?_ ?_ ?_
    all_goals first | (simp only [go_sem, reduceCtorEq, Nat.reduceAdd, Nat.reduceSub, Nat.reduceMul, Nat.reduceEqDiff, Nat.reduceLT, Nat.reduceDiv, Nat.reduceMod, Nat.reduceLeDiff, ↓reduceIte]; done) | skip
    intro e' G' q1 q2
    simp only [go_sem, reduceCtorEq, Nat.reduceAdd, Nat.reduceSub, Nat.reduceMul, Nat.reduceEqDiff, Nat.reduceLT, Nat.reduceDiv, Nat.reduceMod, Nat.reduceLeDiff, ↓reduceIte, q1]
    exact hx _ (fB.trans q2)
  · have hon := fun {d : Nat} {k : K} => on_call' (cp := cp) (fuel := fuel) Q S9.dp (b := false) (by rw [b1]; rfl) (d := d) (k := k)
    simp only [go_sem, reduceCtorEq, Nat.reduceAdd, Nat.reduceSub, Nat.reduceMul, Nat.reduceEqDiff, Nat.reduceLT, Nat.reduceDiv, Nat.reduceMod, Nat.reduceLeDiff, ↓reduceIte, hon, b2]
    refine twice_tail Q hcm hca hcb S9 b1 b7 b8 (b5.trans lA) (b6.trans rA) b3 (W := (A.commit pk a (wrsOf ps)).1) (Z := A) (hvc.fresh fB) hnc J1 J dW.fuse fA (dW.len.trans lA) lA (dW.room.trans rA) rA rfl rfl rfl rfl ?_ (hk.fresh fB) hkc hkb gX gn hfu ?_ ?_ ?_ ?_ ?_ ?_ ?_ ?_
    · obtain ⟨an, nn', un, gn', hRD, hgn⟩ := b9 (bs.take 300)
      refine ⟨an, nn', un, gn', hRD, ?_⟩
      rcases hgn with h | h
      · exact Or.inr h
      · exact Or.inl fun k hk => (h k hk).trans ((dW.yes b10).1 k hk).symm
    all_goals first | (simp only [go_sem, reduceCtorEq, Nat.reduceAdd, Nat.reduceSub, Nat.reduceMul, Nat.reduceEqDiff, Nat.reduceLT, Nat.reduceDiv, Nat.reduceMod, Nat.reduceLeDiff, ↓reduceIte]; done) | skip
    intro e' G' q1 q2
    simp only [go_sem, reduceCtorEq, Nat.reduceAdd, Nat.reduceSub, Nat.reduceMul, Nat.reduceEqDiff, Nat.reduceLT, Nat.reduceDiv, Nat.reduceMod, Nat.reduceLeDiff, ↓reduceIte, q1]
    exact hx _ (fB.trans q2)
end
end Go.Ev
end
section
namespace Go.Ev
open Go.Deep Go.ChangeShapes Go.WideShapes Go.RowKit
section
variable {H : Type} {enc : TypeId × Value → H} {P : Program} {w : World}
theorem cap_seen {t e : TypeId} {fuel : Nat} {v : Value} {x : DataW H × List MemPlace} (ht : P.underlying t = some (.slice e)) (h : DataW.trod enc P w 0 (fun _ => true) true fuel t [v] = some x) (h1 : (vOf w.heap.size v).one = true) : CapOK (vOf w.heap.size v) := by
  rcases open_slice ht h with ⟨hcs, _⟩ | ⟨a, len, cap, m, n, D, Pl, hcs, _, hl, hm, hmc, _, hx⟩
  · cases hcs; exact Or.inl rfl
  · simp only [List.cons.injEq, and_true] at hcs
    subst hcs
    have hv : vOf w.heap.size (.slice (some a) len cap) = if len ≤ cap then (if a.spot = none ∧ a.block < w.heap.size then V.slice a.block a.off len (cap + 1) 0 else if cap = 0 then V.slice w.heap.size a.off 0 1 0 else V.tup []) else V.tup [] := rfl
    rw [if_pos hl] at hv
    by_cases h2 : a.spot = none ∧ a.block < w.heap.size
    · rw [if_pos h2] at hv
      exact Or.inr ⟨_, _, _, _, _, hv, Or.inr ⟨by omega, by omega⟩⟩
    · rw [if_neg h2] at hv
      by_cases h3 : cap = 0
      · rw [if_pos h3] at hv
        exact Or.inr ⟨_, _, _, _, _, hv, Or.inr ⟨by omega, by omega⟩⟩
      · rw [if_neg h3] at hv
        rw [hv] at h1; cases h1
theorem kp_seen {t e : TypeId} {fuel : Nat} {v : Value} {x : DataW H × List MemPlace} (ht : P.underlying t = some (.slice e)) (hz : P.cellsOf e = 1) (he : P.underlying e = some .bool) (h : DataW.trod enc P w 0 (fun _ => true) true fuel t [v] = some x) (hnf : w.noneFrozen x.2) :
    (vOf w.heap.size v).one = true ∧ CapOK (vOf w.heap.size v) ∧ ∃ bs, KpAt (adopt w) (vOf w.heap.size v) bs ∧ bs.length < 9223372036854775808 := by
  obtain ⟨h1, h2⟩ := slice_seen ht hz (by omega) h hnf
  refine ⟨h1, cap_seen ht h h1, ?_⟩
  rcases h2 with h2 | ⟨b, o, len, c, row, hl0, hl, hv, hb, hbn, hx⟩
  · exact ⟨[], Or.inl ⟨h2, rfl⟩, by simp⟩
  have each : ∀ i, i < len → ∃ p : Bool, row[o + i]? = some (.bool p) := fun i hi => by
    obtain ⟨cs, n, y, hlen, hcs, htr, _⟩ := hx i hi
    match cs, hlen with
    | [v0], _ =>
      obtain ⟨b0, e0, _⟩ := DataW.trod_bool he htr
      cases e0
      have := hcs 0 _ rfl
      rw [Nat.mul_one, Nat.add_zero, vOf_bool] at this
      exact ⟨b0, this⟩
  obtain ⟨p, hp⟩ := choose_lt each
  refine ⟨(List.range len).map p, Or.inr ⟨b, o, c, 0, row, by rw [hv]; simp, Or.inr hb, hbn, fun i x hi => ?_⟩, by rw [List.length_map, List.length_range]; omega⟩
  rw [List.getElem?_map] at hi
  obtain ⟨q, h3, rfl⟩ := Option.map_eq_some_iff.1 hi
  obtain ⟨h4, h5⟩ := List.getElem?_eq_some_iff.1 h3
  rw [List.getElem_range] at h5
  subst h5
  exact hp i (by simpa using h4)
theorem u8_lt {n : Int} : (n % (2 ^ IntKind.u8.bits : Nat)).toNat < 256 := by
  have h1 : (0 : Int) ≤ n % (2 ^ IntKind.u8.bits : Nat) := Int.emod_nonneg _ (by simp [IntKind.bits])
  have h2 : n % (2 ^ IntKind.u8.bits : Nat) < (2 ^ IntKind.u8.bits : Nat) := Int.emod_lt_of_pos _ (by simp [IntKind.bits])
  simp only [IntKind.bits] at h1 h2 ⊢
  omega
theorem last_seen {t e e1 e2 : TypeId} {p0 p1 p2 : Field} {f0 f1 f2 : Field} {fuel : Nat} {cs : List Value} {x : DataW H × List MemPlace} (ht : P.underlying t = some (.struct #[f0, f1, f2])) (o0 : f0.offset = 0) (o1 : f1.offset = 1) (o2 : f2.offset = 3) (c0 : P.cellsOf f0.type = 1) (c1 : P.cellsOf f1.type = 2) (c2 : P.cellsOf f2.type = 1) (hz4 : P.cellsOf t = 4)
    (uL : P.underlying f0.type = some (.slice e)) (he : P.underlying e = some (.struct #[p0, p1, p2])) (hz : P.cellsOf e = 3) (q0 : p0.offset = 0) (q1 : p1.offset = 1) (q2 : p2.offset = 2) (z0 : P.cellsOf p0.type = 1) (z1 : P.cellsOf p1.type = 1) (z2 : P.cellsOf p2.type = 1) (u0 : P.underlying p0.type = some (.int .i64)) (u1 : P.underlying p1.type = some (.int .u8)) (u2 : P.underlying p2.type = some .bool)
    (uF : P.underlying f1.type = some (.array 2 e1)) (k1 : P.cellsOf e1 = 1) (v1 : P.underlying e1 = some (.int .u8)) (uK : P.underlying f2.type = some (.slice e2)) (k2 : P.cellsOf e2 = 1) (v2 : P.underlying e2 = some .bool)
    (h : DataW.trod enc P w 0 (fun _ => true) true fuel t cs = some x) (hnf : w.noneFrozen x.2) :
    ∃ (a b : Value) (n m : Int) (ps : List Pt) (bs : List Bool), cs = [a, .int .u8 n, .int .u8 m, b] ∧ (Lit.int .u8 n).wf = true ∧ (Lit.int .u8 m).wf = true ∧ (vOf w.heap.size a).one = true ∧ PsAt (adopt w) (vOf w.heap.size a) ps ∧ ps.length < 9223372036854775808 ∧
      (vOf w.heap.size b).one = true ∧ CapOK (vOf w.heap.size b) ∧ KpAt (adopt w) (vOf w.heap.size b) bs ∧ bs.length < 9223372036854775808 := by
  obtain ⟨xs, n', _, rfl, hlen, hxl, hf⟩ := DataW.trod_struct ht h
  rw [hz4] at hlen
  have hxl : xs.length = 3 := hxl
  match cs, hlen, xs, hxl with
  | [a, i, j, b], _, [y0, y1, y2], _ =>
    have g0 := hf 0 f0 rfl
    have g1 := hf 1 f1 rfl
    have g2 := hf 2 f2 rfl
    simp [o0, c0] at g0
    simp [o1, c1] at g1
    simp [o2, c2] at g2
    have nf0 : w.noneFrozen y0.2 := fun b off h => hnf b off (by simp [h])
    have nf2 : w.noneFrozen y2.2 := fun b off h => hnf b off (by simp [h])
    obtain ⟨one0, ps, s1, s2⟩ := ps_seen uL he hz q0 q1 q2 z0 z1 z2 u0 u1 u2 g0 nf0
    obtain ⟨one2, hcap, bs, s3, s4⟩ := kp_seen uK k2 v2 g2 nf2
    obtain ⟨ys, m', _, _, _, hyl, hel⟩ := DataW.trod_array uF g1
    have e0 := hel 0 (by omega)
    have e1' := hel 1 (by omega)
    simp [k1] at e0 e1'
    rw [List.getElem?_eq_getElem (by omega)] at e0 e1'
    obtain ⟨n0, r0, _, w0⟩ := DataW.trod_int v1 e0
    obtain ⟨n1, r1, _, w1⟩ := DataW.trod_int v1 e1'
    cases r0; cases r1
    exact ⟨a, b, _, _, ps, bs, rfl, w0, w1, one0, s1, s2, one2, hcap, s3, s4⟩
theorem called_cps (hm : P.follows .mixedOrders = true) {t : Nat → Option FnE} (ht : TabOK P t) {fuel depth : Nat} {f : FuncId} {args : List V} {cargs : Array Value} {w : World} (ha : VRs (mu (rhoOf w) (Ev.adopt w) w) args cargs.toList)
    (h : ∀ (k : K) (x : R), (∀ H', Fresh (Ev.adopt w) H' → k (.bool true) H' = x) → callP (evP (compRC P) t fuel depth) (.func (2 * f) []) args (Ev.adopt w) k = x) :
    Calls P f cargs w fun e w' => e = .returned (.bool true) ∧ Below w.heap.size w w' := by
  obtain ⟨v, H2, h1, h2⟩ := evP_ok hm ht fuel depth (.func (2 * f) []) args (Ev.adopt w) (fun v H2 => @ite _ (v = .bool true ∧ w.heap.size + 1 ≤ H2.wlo) (Classical.propDecidable _) 1 0) (h _ 1 fun H' hF => by
    rw [if_pos]
    exact ⟨rfl, hF.lo _ (by rw [adopt_wlo]; exact Nat.le_refl _) (by rw [adopt_n]; exact Nat.le_refl _)⟩)
  have h3 : v = .bool true ∧ w.heap.size + 1 ≤ H2.wlo := by
    by_cases hh : v = .bool true ∧ w.heap.size + 1 ≤ H2.wlo
    · exact hh
    · simp only [if_neg hh] at h2
      exact absurd h2 (by decide)
  obtain ⟨rfl, hlo⟩ := h3
  have h4 := h1.2 f [] rfl
  rw [List.append_nil] at h4
  obtain ⟨_, h5⟩ := h4 0 w (rhoOf w) w cargs (PR.adopt w) ha
  refine CallsIn.calls (h5.mono fun e w' he => ?_) fun k => by simp [Fence.room]
  obtain ⟨cv, rfl, rho', h6, h7, h8⟩ := he
  simp only [VR] at h6
  subst h6
  refine ⟨rfl, h7.below.os, h7.below.tape, h7.below.output, h7.below.size, fun k hk => h8.fr k hk fun b hb => ?_⟩
  have := (PR.adopt (P := P) w).lt b k hb
  rw [adopt_n] at this
  omega
end
end Go.Ev
end
