/- LE: a part of the evaluator, of its logic, or of the laws' walk in it. -/
import Derived.Test.YtmegpbadkojhbaaDoorLD
import Derived.Test.YtmegpbadkojhbaaDoorLC
import Derived.OpenShut
set_option linter.unusedVariables false
set_option linter.unusedSimpArgs false
set_option linter.unusedSectionVars false
section
namespace Go.Ev
theorem kept_eq {A B : AD} (hl : A.len = B.len) (h : ∀ k, 145 ≤ k → find A.es k = find B.es k) : A.kept = B.kept := by
  unfold AD.kept
  rw [hl]
  refine List.map_congr_left fun j _ => ?_
  rw [AD.read, AD.read, h _ (by omega)]
theorem kept_len {A : AD} (hl : A.len = 200) : A.kept.length = 55 := by
  unfold AD.kept
  rw [hl]; simp
section
variable {cp : RC → CodeE} {t : Nat → Option FnE} {fuel : Nat} {H : Heap} {pk : List UInt8 → List (List UInt8)} {unpk : List (List UInt8) → Option (List UInt8)}
theorem all_end (Q : TJ t pk unpk) {G : Heap} {p : Nat} {A : AD} {O : Nat → Prop} (hD : Disk G p A O) (ho : A.off = false) (hl : A.len = 200) {va vb : V} {before after : List Tx} (hb : SsAt G vb before O) (ha : SsAt G va after O) (hbl : before.length = 55) (hal : after.length = 55) (h : A.kept = before ∨ A.kept = after) (hfu : 1000000 < fuel)
    {d : Nat} {e : Env} {kn : KE} {kx : Nat → KE} {x : R} (h10 : pget ⟨.i0, .i1, .i0⟩ e = .ptr p 0) (h12 : pget ⟨.i0, .i1, .i2⟩ e = vb) (h16 : pget ⟨.i0, .i1, .i6⟩ e = va) (h20 : pget ⟨.i0, .i2, .i0⟩ e = .int 3 0)
    (hx : ∀ e' G', pget ⟨.i0, .i0, .i4⟩ e' = .bool true → Fresh G G' → kx 0 e' G' = x) : evC c4r21 fuel (evP cp t fuel (d + 9)) e G kn kx = x := by
  have Q' := Q
  obtain ⟨T, hc, F, hp, hu⟩ := Q'
  obtain ⟨G1, vn, z1, f1, g1⟩ := kept_call (cp := cp) (fuel := fuel) T hc hD ho (by omega) (by omega) (by omega)
  have s1 := g1.at_ (O := O) hD.lt
  have hkl := kept_len hl
  have c1 := fun {d : Nat} {k : K} => alike_call (cp := cp) (fuel := fuel) T f1.wf s1 (hb.fresh f1) (by omega) (by omega) hfu d k
  have c2 := fun {d : Nat} {k : K} => alike_call (cp := cp) (fuel := fuel) T f1.wf s1 (ha.fresh f1) (by omega) (by omega) hfu d k
  obtain ⟨G2, z2, f2⟩ := works_call (cp := cp) (fuel := fuel) Q f1.wf (by omega)
  have z1' := fun {d : Nat} {k : K} => z1 (d + 5) k
  have hx' := fun e' h4 => hx e' G2 h4 (f1.trans f2)
  by_cases hq : A.kept = before
  · rw [decide_eq_true hq] at c1
    simp only [go_sem, reduceCtorEq, Nat.reduceAdd, Nat.reduceSub, Nat.reduceMul, Nat.reduceEqDiff, Nat.reduceLT, Nat.reduceDiv, Nat.reduceMod, Nat.reduceLeDiff, ↓reduceIte, c4r21, c4r22, c4r23, h10, h12, h16, h20, z1', c1, z2]
    exact hx' _ (by simp only [go_sem, reduceCtorEq, ↓reduceIte])
  · have hq2 : A.kept = after := h.resolve_left hq
    rw [decide_eq_false hq] at c1
    rw [decide_eq_true hq2] at c2
    simp only [go_sem, reduceCtorEq, Nat.reduceAdd, Nat.reduceSub, Nat.reduceMul, Nat.reduceEqDiff, Nat.reduceLT, Nat.reduceDiv, Nat.reduceMod, Nat.reduceLeDiff, ↓reduceIte, c4r21, c4r22, c4r23, h10, h12, h16, h20, z1', c1, c2, z2]
    exact hx' _ (by simp only [go_sem, reduceCtorEq, ↓reduceIte])
theorem on_call' (Q : TJ t pk unpk) {G : Heap} {p : Nat} {A : AD} {O : Nat → Prop} (hD : Disk G p A O) {b : Bool} (hb : (!A.off) = b) {d : Nat} {k : K} : callP (evP cp t fuel (d + 2)) (.func 38 []) [.ptr p 0] G k = k (.bool b) G := by
  rw [on_all (Q.T.disk4 Q.hc) hD, hb]
set_option maxHeartbeats 1000000 in
theorem all_recover (Q : TJ t pk unpk) (hcm : t 40 = some (.nat nCopyM)) (hca : cp r20.1 = c20a) (hcb : cp r20.2 = c20b)
    {G : Heap} {p : Nat} {A : AD} {O : Nat → Prop} (hD : Disk G p A O) (f : Fresh H G) (own : ∀ b, O b → H.n ≤ b) {a n : Nat} {us : List Wr} {g : Nat → Option Tx} (hR : RD pk A a n us g) (hl : A.len = 200)
    {va vb vk : V} {bs : List Bool} {before after : List Tx} (hb : SsAt G vb before O) (ha : SsAt G va after O) (hbl : before.length = 55) (hal : after.length = 55) (hk : KpAt H vk bs) (hkb : bs.length < 9223372036854775808) (hg : ∀ B : AD, B.len = 200 → (∀ k, 145 ≤ k → find B.es k = g k) → B.kept = before ∨ B.kept = after) (hfu : 1000000 < fuel)
    {d : Nat} {e : Env} {kn : KE} {kx : Nat → KE} {x : R} (h7 : pget ⟨.i0, .i0, .i7⟩ e = vk) (h10 : pget ⟨.i0, .i1, .i0⟩ e = .ptr p 0) (h12 : pget ⟨.i0, .i1, .i2⟩ e = vb) (h16 : pget ⟨.i0, .i1, .i6⟩ e = va)
    (hx : ∀ e' G', pget ⟨.i0, .i0, .i4⟩ e' = .bool true → Fresh H G' → kx 0 e' G' = x) : evC c4r19 fuel (evP cp t fuel (d + 9)) e G kn kx = x := by
  have Q' := Q
  obtain ⟨T, hc, F, hp, hu⟩ := Q'
  obtain ⟨G1, O1, z1, s1, D1⟩ := recover_call (cp := cp) (fuel := fuel) T hc F hu hD hR.rec_ (by omega)
  obtain ⟨f1, own1⟩ := f.own s1 own
  have z1' := fun {d : Nat} {k : K} => z1 (d + 2) k
  rcases hR.recover with ⟨r1, r2, r3, r4, r5⟩ | ⟨r0, r1, r2, r3, r4, r5, r6, r7⟩
  · rw [r1] at z1'
    have hon := fun {d : Nat} {k : K} => on_call' (cp := cp) (fuel := fuel) Q D1 (b := true) (by rw [r2.off]; rfl) (d := d) (k := k)
    simp only [go_sem, reduceCtorEq, Nat.reduceAdd, Nat.reduceSub, Nat.reduceMul, Nat.reduceEqDiff, Nat.reduceLT, Nat.reduceDiv, Nat.reduceMod, Nat.reduceLeDiff, ↓reduceIte, c4r19, c4r20, h7, h10, h12, h16, z1', hon]
    refine all_end Q D1 r2.off (r3.trans hl) (hb.keep s1) (ha.keep s1) hbl hal (hg _ (r3.trans hl) r5) hfu ?_ ?_ ?_ ?_ fun e' G' q1 q2 => hx e' G' q1 (f1.trans q2)
    · simp only [go_sem, reduceCtorEq, ↓reduceIte, h10]
    · simp only [go_sem, reduceCtorEq, ↓reduceIte, h12]
    · simp only [go_sem, reduceCtorEq, ↓reduceIte, h16]
    · simp only [go_sem, reduceCtorEq, ↓reduceIte]
  · rw [r1] at z1'
    have hon := fun {d : Nat} {k : K} => on_call' (cp := cp) (fuel := fuel) Q D1 (b := false) (by rw [r2]; rfl) (d := d) (k := k)
    simp only [go_sem, reduceCtorEq, Nat.reduceAdd, Nat.reduceSub, Nat.reduceMul, Nat.reduceEqDiff, Nat.reduceLT, Nat.reduceDiv, Nat.reduceMod, Nat.reduceLeDiff, ↓reduceIte, c4r19, c4r20, h7, h10, h12, h16, z1', hon]
    refine wake_call (d := d + 6) T hcm hca hcb D1 r2 r5 r6 (hk.fresh f1) hkb hfu _ _ fun G2 O2 s2 D2 => ?_
    obtain ⟨f2, own2⟩ := f1.own s2 own1
    have hR2 := r7 bs
    obtain ⟨G3, O3, z3, s3, D3⟩ := recover_call (cp := cp) (fuel := fuel) T hc F hu D2 hR2.rec_ (by omega)
    obtain ⟨f3, own3⟩ := f2.own s3 own2
    have z3' := fun {d : Nat} {k : K} => z3 (d + 2) k
    rcases hR2.recover with ⟨t1, t2, t3, t4, t5⟩ | ⟨t0, _⟩
    · rw [t1] at z3'
      simp only [go_sem, reduceCtorEq, Nat.reduceAdd, Nat.reduceSub, Nat.reduceMul, Nat.reduceEqDiff, Nat.reduceLT, Nat.reduceDiv, Nat.reduceMod, Nat.reduceLeDiff, ↓reduceIte, h7, h10, h12, h16, z3']
      have hl3 := t3.trans (r4.trans hl)
      refine all_end Q D3 t2.off hl3 (((hb.keep s1).keep s2).keep s3) (((ha.keep s1).keep s2).keep s3) hbl hal (hg _ hl3 t5) hfu ?_ ?_ ?_ ?_ fun e' G' q1 q2 => hx e' G' q1 (f3.trans q2)
      · simp only [go_sem, reduceCtorEq, ↓reduceIte, h10]
      · simp only [go_sem, reduceCtorEq, ↓reduceIte, h12]
      · simp only [go_sem, reduceCtorEq, ↓reduceIte, h16]
      · simp only [go_sem, reduceCtorEq, ↓reduceIte]
    · exact absurd r3 t0
end
end Go.Ev
end
section
namespace Go.Ev
section
variable {cp : RC → CodeE} {t : Nat → Option FnE} {fuel : Nat} {H : Heap} {pk : List UInt8 → List (List UInt8)} {unpk : List (List UInt8) → Option (List UInt8)}
set_option maxHeartbeats 1000000 in
theorem all_wake (Q : TJ t pk unpk) (hcm : t 40 = some (.nat nCopyM)) (hca : cp r20.1 = c20a) (hcb : cp r20.2 = c20b)
    {G : Heap} {p : Nat} {A : AD} {O : Nat → Prop} (hD : Disk G p A O) (f : Fresh H G) (own : ∀ b, O b → H.n ≤ b) (ho : A.off = true) (hus : A.us.length < 1000000) (hes : A.es.length < 1000000) (hl : A.len = 200) {bs : List Bool}
    {a n : Nat} {us : List Wr} {g : Nat → Option Tx} (hR : RD pk (A.wake bs) a n us g)
    {va vb vk : V} {X f0 f1 : Nat} {before after : List Tx} (hb : SsAt G vb before O) (ha : SsAt G va after O) (hbl : before.length = 55) (hal : after.length = 55) (hk : KpAt H vk bs) (hkb : bs.length < 9223372036854775808) (hX : H.get X = .bytes 2 (f0 + 256 * f1)) (hXn : X < H.n) (hf0 : f0 < 256) (hf1 : f1 < 256) (hg : ∀ B : AD, B.len = 200 → (∀ k, 145 ≤ k → find B.es k = g k) → B.kept = before ∨ B.kept = after) (hfu : 1000000 < fuel)
    {d : Nat} {e : Env} {kn : KE} {kx : Nat → KE} {x : R} (h6 : pget ⟨.i0, .i0, .i6⟩ e = .ptr X 0) (h7 : pget ⟨.i0, .i0, .i7⟩ e = vk) (h10 : pget ⟨.i0, .i1, .i0⟩ e = .ptr p 0) (h12 : pget ⟨.i0, .i1, .i2⟩ e = vb) (h16 : pget ⟨.i0, .i1, .i6⟩ e = va)
    (hx : ∀ e' G', pget ⟨.i0, .i0, .i4⟩ e' = .bool true → Fresh H G' → kx 0 e' G' = x) : evC c4r17 fuel (evP cp t fuel (d + 9)) e G kn kx = x := by
  have Q' := Q
  obtain ⟨T, hc, F, hp, hu⟩ := Q'
  simp only [go_sem, reduceCtorEq, Nat.reduceAdd, Nat.reduceSub, Nat.reduceMul, Nat.reduceEqDiff, Nat.reduceLT, Nat.reduceDiv, Nat.reduceMod, Nat.reduceLeDiff, ↓reduceIte, c4r17, h6, h7, h10, h12, h16]
  refine wake_call (d := d + 6) T hcm hca hcb hD ho hus hes (hk.fresh f) hkb hfu _ _ fun G1 O1 s1 D1 => ?_
  obtain ⟨f1', own1⟩ := f.own s1 own
  have hX1 : G1.get X = .bytes 2 (f0 + 256 * f1) := (f1'.same X hXn).trans hX
  obtain ⟨G2, z2, D2, s2⟩ := arm_all (cp := cp) (fuel := fuel) (r := f1) T D1 (by unfold nn; omega)
  obtain ⟨f2', own2⟩ := f1'.own s2 own1
  have z2' := fun {d : Nat} {k : K} => z2 (d + 8) k
  have e1 : (f0 + 256 * f1) >>> 8 &&& 255 = f1 := by
    rw [show (255 : Nat) = 2 ^ 8 - 1 from rfl, Nat.and_two_pow_sub_one_eq_mod, Nat.shiftRight_eq_div_pow]
    omega
  have e2 : f1 % 18446744073709551616 = f1 := by omega
  have hc1 := f1'.wf
  simp only [go_sem, reduceCtorEq, Nat.reduceAdd, Nat.reduceSub, Nat.reduceMul, Nat.reduceEqDiff, Nat.reduceLT, Nat.reduceDiv, Nat.reduceMod, Nat.reduceLeDiff, ↓reduceIte, c4r18, h6, h7, h10, h12, h16, hX1, e1, e2, z2']
  refine all_recover (A := { A.wake bs with fuse := f1 }) Q hcm hca hcb D2 f2' own2 hR.with_fuse hl ((hb.keep s1).keep s2) ((ha.keep s1).keep s2) hbl hal hk hkb hg hfu ?_ ?_ ?_ ?_ hx
  · simp only [go_sem, reduceCtorEq, ↓reduceIte, h7]
  · simp only [go_sem, reduceCtorEq, ↓reduceIte, h10]
  · simp only [go_sem, reduceCtorEq, ↓reduceIte, h12]
  · simp only [go_sem, reduceCtorEq, ↓reduceIte, h16]
def CapOK (v : V) : Prop := v = .nils ∨ ∃ b o n c s, v = .slice b o n c s ∧ ((c = 0 ∧ s = 1) ∨ (c ≠ 0 ∧ n ≤ c - 1))
theorem keep_part {v : V} {bs : List Bool} (hk : KpAt H v bs) (hc : CapOK v) (hb : bs.length < 9223372036854775808) : ∃ v', KpAt H v' (bs.take 300) ∧ ∀ {ph : Phi} {e : Env} {kn : KE} {kx : Nat → KE} {G : Heap} {x : R}, pget ⟨.i0, .i0, .i7⟩ e = v →
    (∀ e', (∀ b c, ¬ (b = .i0 ∧ c = .i7) → pget ⟨.i0, b, c⟩ e' = pget ⟨.i0, b, c⟩ e) → pget ⟨.i0, .i0, .i7⟩ e' = v' → evC c4r13 fuel ph e' G kn kx = x) →
    evC c4r12 fuel ph e G kn kx = x := by
  have fin : ∀ {ph : Phi} {e : Env} {kn : KE} {kx : Nat → KE} {G : Heap} {x : R} {v0 v1 v2 v3 v4 : V}, (∀ e', (∀ b c, ¬ (b = .i0 ∧ c = .i7) → pget ⟨.i0, b, c⟩ e' = pget ⟨.i0, b, c⟩ e) → pget ⟨.i0, .i0, .i7⟩ e' = v0 → evC c4r13 fuel ph e' G kn kx = x) →
      evC c4r13 fuel ph (pset ⟨.i0, .i0, .i7⟩ v0 (pset ⟨.i1, .i0, .i5⟩ v0 (pset ⟨.i1, .i0, .i4⟩ v1 (pset ⟨.i1, .i0, .i3⟩ v2 (pset ⟨.i1, .i0, .i2⟩ v3 (pset ⟨.i1, .i0, .i1⟩ v4 e)))))) G kn kx = x := fun h => h _ (fun b c hb => by simp only [go_sem, reduceCtorEq, Nat.reduceAdd, Nat.reduceSub, Nat.reduceMul, Nat.reduceEqDiff, Nat.reduceLT, Nat.reduceDiv, Nat.reduceMod, Nat.reduceLeDiff, ↓reduceIte, hb]) (by simp only [go_sem, reduceCtorEq, ↓reduceIte])
  have n0 : nn 0 := by unfold nn; omega
  have n3 : nn 300 := by unfold nn; omega
  have nl : nn bs.length := by unfold nn; omega
  have m0 : min 0 300 = 0 := rfl
  have z9 : (0 : Nat) < 9223372036854775808 := by omega
  rcases hk with ⟨rfl | ⟨b, o, c, s, rfl⟩, rfl⟩ | ⟨b, o, c, s, row, rfl, hrow, hbn, hr⟩
  · refine ⟨.nils, Or.inl ⟨Or.inl rfl, rfl⟩, fun h7 h => ?_⟩
    simp only [go_sem, reduceCtorEq, Nat.reduceAdd, Nat.reduceSub, Nat.reduceMul, Nat.reduceEqDiff, Nat.reduceLT, Nat.reduceDiv, Nat.reduceMod, Nat.reduceLeDiff, ↓reduceIte, c4r12, h7, n0, n3, m0]
    exact fin h
  · obtain ⟨b', o', n', c', s', he, hcc⟩ := hc.resolve_left (by simp)
    simp only [V.slice.injEq] at he
    obtain ⟨rfl, rfl, rfl, rfl, rfl⟩ := he
    rcases hcc with ⟨rfl, rfl⟩ | ⟨hc0, hcn⟩
    · refine ⟨.slice b o 0 0 1, Or.inl ⟨Or.inr ⟨_, _, _, _, rfl⟩, rfl⟩, fun h7 h => ?_⟩
      simp only [go_sem, reduceCtorEq, Nat.reduceAdd, Nat.reduceSub, Nat.reduceMul, Nat.reduceEqDiff, Nat.reduceLT, Nat.reduceDiv, Nat.reduceMod, Nat.reduceLeDiff, ↓reduceIte, c4r12, h7, n0, n3, m0, z9]
      exact fin h
    · by_cases hc1 : c - 1 = 0
      · refine ⟨.slice b o 0 1 0, Or.inl ⟨Or.inr ⟨_, _, _, _, rfl⟩, rfl⟩, fun h7 h => ?_⟩
        simp only [go_sem, reduceCtorEq, Nat.reduceAdd, Nat.reduceSub, Nat.reduceMul, Nat.reduceEqDiff, Nat.reduceLT, Nat.reduceDiv, Nat.reduceMod, Nat.reduceLeDiff, ↓reduceIte, c4r12, h7, n0, n3, m0, hc0, hc1, z9]
        exact fin h
      · refine ⟨.slice b o 0 (c - 1 + 1) 0, Or.inl ⟨Or.inr ⟨_, _, _, _, rfl⟩, rfl⟩, fun h7 h => ?_⟩
        simp only [go_sem, reduceCtorEq, Nat.reduceAdd, Nat.reduceSub, Nat.reduceMul, Nat.reduceEqDiff, Nat.reduceLT, Nat.reduceDiv, Nat.reduceMod, Nat.reduceLeDiff, ↓reduceIte, c4r12, h7, n0, n3, m0, hc0, hc1, z9, Nat.sub_zero]
        exact fin h
  · obtain ⟨b', o', n', c', s', he, hcc⟩ := hc.resolve_left (by simp)
    simp only [V.slice.injEq] at he
    obtain ⟨rfl, rfl, rfl, rfl, rfl⟩ := he
    have hm : min bs.length 300 ≤ bs.length := Nat.min_le_left _ _
    have hmz : min bs.length 300 < 9223372036854775808 := by omega
    have ht : (bs.take 300).length = min bs.length 300 := by rw [List.length_take, Nat.min_comm]
    have hr' : ∀ i x, (bs.take 300)[i]? = some x → row[o + i]? = some (.bool x) := fun i x h => hr i x (by
      rw [List.getElem?_take] at h
      split at h
      · exact h
      · cases h)
    rcases hcc with ⟨rfl, rfl⟩ | ⟨hc0, hcn⟩
    · refine ⟨.slice b o (min bs.length 300) 0 1, Or.inr ⟨b, o, 0, 1, row, by rw [ht], hrow, hbn, hr'⟩, fun h7 h => ?_⟩
      simp only [go_sem, reduceCtorEq, Nat.reduceAdd, Nat.reduceSub, Nat.reduceMul, Nat.reduceEqDiff, Nat.reduceLT, Nat.reduceDiv, Nat.reduceMod, Nat.reduceLeDiff, ↓reduceIte, c4r12, h7, nl, n3, hb, hm, hmz, Nat.sub_zero]
      exact fin h
    · by_cases hc1 : c - 1 = 0
      · obtain rfl : bs = [] := List.eq_nil_of_length_eq_zero (by omega)
        refine ⟨.slice b o 0 1 0, Or.inl ⟨Or.inr ⟨_, _, _, _, rfl⟩, rfl⟩, fun h7 h => ?_⟩
        simp only [go_sem, reduceCtorEq, Nat.reduceAdd, Nat.reduceSub, Nat.reduceMul, Nat.reduceEqDiff, Nat.reduceLT, Nat.reduceDiv, Nat.reduceMod, Nat.reduceLeDiff, ↓reduceIte, c4r12, h7, n0, n3, m0, hc0, hc1, z9]
        exact fin h
      · refine ⟨.slice b o (min bs.length 300) (c - 1 + 1) 0, Or.inr ⟨b, o, c - 1 + 1, 0, row, by rw [ht], hrow, hbn, hr'⟩, fun h7 h => ?_⟩
        have hmc : min bs.length 300 ≤ c - 1 := by omega
        simp only [go_sem, reduceCtorEq, Nat.reduceAdd, Nat.reduceSub, Nat.reduceMul, Nat.reduceEqDiff, Nat.reduceLT, Nat.reduceDiv, Nat.reduceMod, Nat.reduceLeDiff, ↓reduceIte, c4r12, h7, nl, n3, hb, hm, hmz, hmc, hc0, hc1, Nat.sub_zero]
        exact fin h
end
end Go.Ev
end
section
namespace Go.Ev
theorem WsAt.other {G : Heap} {v : V} {ws : List Wr} {O O' : Nat → Prop} (h : WsAt G v ws O) (ho : ∀ b, O' b → G.n ≤ b) : WsAt G v ws O' := by
  rcases h with h | ⟨b, c, z, h1, h2, h3, h4⟩
  · exact Or.inl h
  · exact Or.inr ⟨b, c, z, h1, h2, h3, fun h => by have := ho b h; omega⟩
theorem WsAt.along {G G' : Heap} {v : V} {ws : List Wr} {O Q Q' : Nat → Prop} (h : WsAt G v ws O) (hq : WsAt G v ws Q) (s : Step G Q G' Q') : WsAt G' v ws O := by
  rcases h with h | ⟨b, c, z, h1, h2, h3, h4⟩
  · exact Or.inl h
  · rcases hq with ⟨h, _⟩ | ⟨b', c', z', g1, g2, g3, g4⟩
    · rw [h] at h1; cases h1
    · rw [g1] at h1; cases h1
      exact Or.inr ⟨b, c, z, g1, by rw [(s.same b h3 g4).1]; exact h2, Nat.lt_of_lt_of_le h3 s.n, h4⟩
theorem SsAt.other {G : Heap} {v : V} {ws : List Tx} {O O' : Nat → Prop} (h : SsAt G v ws O) (ho : ∀ b, O' b → G.n ≤ b) : SsAt G v ws O' := by
  rcases h with h | ⟨b, h1, h2, h3, h4⟩
  · exact Or.inl h
  · exact Or.inr ⟨b, h1, h2, h3, fun h => by have := ho b h; omega⟩
theorem SsAt.along {G G' : Heap} {v : V} {ws : List Tx} {O Q Q' : Nat → Prop} (h : SsAt G v ws O) (hq : SsAt G v ws Q) (s : Step G Q G' Q') : SsAt G' v ws O := by
  rcases h with h | ⟨b, h1, h2, h3, h4⟩
  · exact Or.inl h
  · rcases hq with ⟨h, _⟩ | ⟨b', g1, g2, g3, g4⟩
    · rw [h] at h1; cases h1
    · rw [g1] at h1; cases h1
      exact Or.inr ⟨b, g1, by rw [(s.same b h3 g4).1]; exact h2, Nat.lt_of_lt_of_le h3 s.n, h4⟩
section
variable {cp : RC → CodeE} {t : Nat → Option FnE} {fuel : Nat} {H : Heap} {pk : List UInt8 → List (List UInt8)} {unpk : List (List UInt8) → Option (List UInt8)}
theorem part11 {G : Heap} {m : Nat} {v1 v5 : V} {b : Bool} (h : m = 0 ∨ b = true) {d : Nat} {e : Env} {kn : KE} {kx : Nat → KE} {x : R} (hm : m < 100) (hc : ∀ {d : Nat} {k : K}, callP (evP cp t fuel (d + 1)) (.func 34 []) [v1, v5] G k = k (.bool b) G) (h15 : pget ⟨.i0, .i1, .i5⟩ e = .int 3 m) (h12 : pget ⟨.i0, .i1, .i2⟩ e = v1) (h16 : pget ⟨.i0, .i1, .i6⟩ e = v5)
    (hx : ∀ e', (∀ b c, b ≠ .i7 → pget ⟨.i0, b, c⟩ e' = pget ⟨.i0, b, c⟩ e) → evC c4r12 fuel (evP cp t fuel (d + 9)) e' G kn kx = x) : evC c4r11 fuel (evP cp t fuel (d + 9)) e G kn kx = x := by
  by_cases h0 : m = 0
  · subst h0
    simp only [go_sem, reduceCtorEq, Nat.reduceAdd, Nat.reduceSub, Nat.reduceMul, Nat.reduceEqDiff, Nat.reduceLT, Nat.reduceDiv, Nat.reduceMod, Nat.reduceLeDiff, ↓reduceIte, c4r11, h15, h12, h16]
    exact hx _ fun b c hb => by simp only [go_sem, reduceCtorEq, Nat.reduceAdd, Nat.reduceSub, Nat.reduceMul, Nat.reduceEqDiff, Nat.reduceLT, Nat.reduceDiv, Nat.reduceMod, Nat.reduceLeDiff, ↓reduceIte, hb]
  · obtain rfl : b = true := h.resolve_left h0
    have hc' := fun {d : Nat} {k : K} => hc (d := d + 8) (k := k)
    simp only [go_sem, reduceCtorEq, Nat.reduceAdd, Nat.reduceSub, Nat.reduceMul, Nat.reduceEqDiff, Nat.reduceLT, Nat.reduceDiv, Nat.reduceMod, Nat.reduceLeDiff, ↓reduceIte, c4r11, h15, h12, h16, h0, hc]
    exact hx _ fun b c hb => by simp only [go_sem, reduceCtorEq, Nat.reduceAdd, Nat.reduceSub, Nat.reduceMul, Nat.reduceEqDiff, Nat.reduceLT, Nat.reduceDiv, Nat.reduceMod, Nat.reduceLeDiff, ↓reduceIte, hb]
set_option maxHeartbeats 2000000 in
theorem all_body (Q : TJ t pk unpk) (hcm : t 40 = some (.nat nCopyM)) (hca : cp r20.1 = c20a) (hcb : cp r20.2 = c20b)
    {G : Heap} {p : Nat} {A : AD} {O : Nat → Prop} (S : JS pk H G p A O) {vL vk : V} {X f0 f1 : Nat} {ps : List Pt} {bs : List Bool} (hvL : PsAt H vL ps) (hn1 : ps.length < 9223372036854775808) (hk : KpAt H vk bs) (hkc : CapOK vk) (hkb : bs.length < 9223372036854775808) (hX : H.get X = .bytes 2 (f0 + 256 * f1)) (hXn : X < H.n) (hf0 : f0 < 256) (hf1 : f1 < 256) (hfu : 1000000 < fuel)
    {d : Nat} {e : Env} {kn : KE} {kx : Nat → KE} {x : R} (h5 : pget ⟨.i0, .i0, .i5⟩ e = vL) (h6 : pget ⟨.i0, .i0, .i6⟩ e = .ptr X 0) (h7 : pget ⟨.i0, .i0, .i7⟩ e = vk) (h10 : pget ⟨.i0, .i1, .i0⟩ e = .ptr p 0)
    (hx : ∀ e' G', pget ⟨.i0, .i0, .i4⟩ e' = .bool true → Fresh H G' → kx 0 e' G' = x) : evC c4r5 fuel (evP cp t fuel (d + 9)) e G kn kx = x := by
  have Q' := Q
  obtain ⟨T, hc, F, hp, hu⟩ := Q'
  obtain ⟨f0', hD, hO, ⟨a, n, us, J⟩, hfz, hl⟩ := S
  -- before, batch, whole
  obtain ⟨G1, v1, z1, f1', g1⟩ := kept_call (cp := cp) (fuel := fuel) T hc hD J.off (by omega) (by omega) (by omega)
  obtain ⟨G2, vw, z2, f2', g2⟩ := writes_call (cp := cp) (fuel := fuel) T f1'.wf ((hvL.fresh f0').fresh f1') hn1 (by omega)
  obtain ⟨w1, w2⟩ := wrsOf_ok ps hvL.small
  have D2 := (hD.fresh f1').fresh f2'
  obtain ⟨G3, q, Oq, z3, D3, f3', o3⟩ := copy_all (cp := cp) (fuel := fuel) (T.disk4 hc) D2 (by rw [J.us]; show 0 < _; omega)
  have hlt := hD.lt
  have b2 := g2.at_ (O := O) (fun b hb => Nat.lt_of_lt_of_le (hlt b hb) f1'.n)
  have k1 := (g1.at_ (O := O) hlt).fresh f2'
  obtain ⟨G4, O4, z4, s4, D4⟩ := commit_call (cp := cp) (fuel := fuel) T hc F hp D3 J.rec_.can ((b2.other o3).fresh f3') w2 (by omega) (by omega)
  have hdid := J.commit F hfz (ws := wrsOf ps) fun w hw => (w2 w hw).2.2
  obtain ⟨D4p, o4⟩ := (D2.fresh f3').keep s4 (fun b hb hb' => by have := D2.lt b hb; have := o3 b hb'; omega)
  have b4 := (b2.fresh f3').along ((b2.other o3).fresh f3') s4
  have k4 := (k1.fresh f3').along ((k1.other o3).fresh f3') s4
  have f34 : Fresh H G4 := (((f0'.trans f1').trans f2').trans f3').own s4 (fun b hb => by have := o3 b hb; have := f0'.n; have := f1'.n; have := f2'.n; omega) |>.1
  generalize hB0 : A.commit pk a (wrsOf ps) = B0 at *
  obtain ⟨aB, nB, uB, JB⟩ := hdid.jd
  have hlB : B0.1.len = 200 := hdid.len.trans hl
  obtain ⟨G5, v5, z5, f5', g5⟩ := kept_call (cp := cp) (fuel := fuel) T hc D4 JB.off (by omega) (by omega) (by omega)
  have k5 := k4.fresh f5'
  have m5 := g5.at_ (O := O) D4p.lt
  have hkA := kept_len hl
  have hkB := kept_len hlB
  have hm100 : B0.2 < 100 := by
    rw [← hB0]; unfold AD.commit
    split; omega; split; omega; split; omega; split; omega; split
    · rw [(runs_calm hfz).1]; omega
    · show 7 < 100; omega
  have c5 := fun {d : Nat} {k : K} => alike_call (cp := cp) (fuel := fuel) T f5'.wf k5 m5 (by omega) (by omega) hfu d k
  have hal : B0.2 = 0 ∨ decide (A.kept = B0.1.kept) = true := by
    by_cases h : B0.2 = 0
    · exact Or.inl h
    · exact Or.inr (decide_eq_true (by rw [hdid.no h]))
  have D5 := D4p.fresh f5'
  have f5H := f34.trans f5'
  obtain ⟨vk', hk', hkeep⟩ := keep_part hk hkc hkb
  have hkl : (bs.take 300).length < 9223372036854775808 := by rw [List.length_take]; omega
  -- Arm, Commit
  obtain ⟨G6, z6, D6, s6⟩ := arm_all (cp := cp) (fuel := fuel) (r := f0) T D5 (by unfold nn; omega)
  obtain ⟨f6, o6⟩ := f5H.own s6 hO
  have J6 := J.with_fuse (f := f0)
  obtain ⟨G7, O7, z7, s7, D7⟩ := commit_call (cp := cp) (fuel := fuel) T hc F hp D6 J6.rec_.can ((b4.fresh f5').keep s6) w2 (by omega) (by omega)
  obtain ⟨f7, o7⟩ := f6.own s7 o6
  have hany := J6.commit_any F (ws := wrsOf ps) fun w hw => (w2 w hw).2.2
  have hz : ({ ({ A with fuse := f0 } : AD) with fuse := 0 } : AD) = A := by cases A; simp only at hfz; subst hfz; rfl
  rw [hz, hB0] at hany
  generalize hB : ({ A with fuse := f0 } : AD).commit pk a (wrsOf ps) = B at *
  have k7 := (k5.keep s6).keep s7
  have m7 := (m5.keep s6).keep s7
  have z1' := fun {d : Nat} {k : K} => z1 (d + 5) k
  have z2' := fun {d : Nat} {k : K} => z2 (d + 8) k
  have z3' := fun {d : Nat} {k : K} => z3 (d + 7) k
  have z4' := fun {d : Nat} {k : K} => z4 (d + 2) k
  have z5' := fun {d : Nat} {k : K} => z5 (d + 5) k
  have z6' := fun {d : Nat} {k : K} => z6 (d + 8) k
  have z7' := fun {d : Nat} {k : K} => z7 (d + 2) k
  have e1 : (f0 + 256 * f1) >>> 0 &&& 255 = f0 := by
    rw [show (255 : Nat) = 2 ^ 8 - 1 from rfl, Nat.and_two_pow_sub_one_eq_mod, Nat.shiftRight_zero]
    omega
  have e2 : f0 % 18446744073709551616 = f0 := by omega
  have hX5 : G5.get X = .bytes 2 (f0 + 256 * f1) := (f5H.same X hXn).trans hX
  simp only [go_sem, reduceCtorEq, Nat.reduceAdd, Nat.reduceSub, Nat.reduceMul, Nat.reduceEqDiff, Nat.reduceLT, Nat.reduceDiv, Nat.reduceMod, Nat.reduceLeDiff, ↓reduceIte, c4r5, c4r6, c4r7, c4r8, c4r9, c4r10, h5, h6, h7, h10, z1', z2', z3', z4', z5']
  refine part11 hal hm100 (fun {d k} => c5) ?_ ?_ ?_ fun e1' q1 => ?_
  · simp only [go_sem, reduceCtorEq, ↓reduceIte]
  · simp only [go_sem, reduceCtorEq, ↓reduceIte]
  · simp only [go_sem, reduceCtorEq, ↓reduceIte]
  have r6 : pget ⟨.i0, .i0, .i6⟩ e1' = .ptr X 0 := by rw [q1 _ _ (by simp)]; simp only [go_sem, reduceCtorEq, Nat.reduceAdd, Nat.reduceSub, Nat.reduceMul, Nat.reduceEqDiff, Nat.reduceLT, Nat.reduceDiv, Nat.reduceMod, Nat.reduceLeDiff, ↓reduceIte, h6]
  have r7 : pget ⟨.i0, .i0, .i7⟩ e1' = vk := by rw [q1 _ _ (by simp)]; simp only [go_sem, reduceCtorEq, Nat.reduceAdd, Nat.reduceSub, Nat.reduceMul, Nat.reduceEqDiff, Nat.reduceLT, Nat.reduceDiv, Nat.reduceMod, Nat.reduceLeDiff, ↓reduceIte, h7]
  have r10 : pget ⟨.i0, .i1, .i0⟩ e1' = .ptr p 0 := by rw [q1 _ _ (by simp)]; simp only [go_sem, reduceCtorEq, Nat.reduceAdd, Nat.reduceSub, Nat.reduceMul, Nat.reduceEqDiff, Nat.reduceLT, Nat.reduceDiv, Nat.reduceMod, Nat.reduceLeDiff, ↓reduceIte, h10]
  have r12 : pget ⟨.i0, .i1, .i2⟩ e1' = v1 := by rw [q1 _ _ (by simp)]; simp only [go_sem, reduceCtorEq, Nat.reduceAdd, Nat.reduceSub, Nat.reduceMul, Nat.reduceEqDiff, Nat.reduceLT, Nat.reduceDiv, Nat.reduceMod, Nat.reduceLeDiff, ↓reduceIte]
  have r13 : pget ⟨.i0, .i1, .i3⟩ e1' = vw := by rw [q1 _ _ (by simp)]; simp only [go_sem, reduceCtorEq, Nat.reduceAdd, Nat.reduceSub, Nat.reduceMul, Nat.reduceEqDiff, Nat.reduceLT, Nat.reduceDiv, Nat.reduceMod, Nat.reduceLeDiff, ↓reduceIte]
  have r15 : pget ⟨.i0, .i1, .i5⟩ e1' = .int 3 B0.2 := by rw [q1 _ _ (by simp)]; simp only [go_sem, reduceCtorEq, Nat.reduceAdd, Nat.reduceSub, Nat.reduceMul, Nat.reduceEqDiff, Nat.reduceLT, Nat.reduceDiv, Nat.reduceMod, Nat.reduceLeDiff, ↓reduceIte]
  have r16 : pget ⟨.i0, .i1, .i6⟩ e1' = v5 := by rw [q1 _ _ (by simp)]; simp only [go_sem, reduceCtorEq, Nat.reduceAdd, Nat.reduceSub, Nat.reduceMul, Nat.reduceEqDiff, Nat.reduceLT, Nat.reduceDiv, Nat.reduceMod, Nat.reduceLeDiff, ↓reduceIte]
  refine hkeep r7 fun e2' q2 t7 => ?_
  have t6 := (q2 .i0 .i6 (by simp)).trans r6
  have t10 := (q2 .i1 .i0 (by simp)).trans r10
  have t12 := (q2 .i1 .i2 (by simp)).trans r12
  have t13 := (q2 .i1 .i3 (by simp)).trans r13
  have t15 := (q2 .i1 .i5 (by simp)).trans r15
  have t16 := (q2 .i1 .i6 (by simp)).trans r16
  rcases hany with ⟨a1, a2, a3, _, a4, a5⟩ | ⟨⟨a1, a2, a3, a4, a5, _, a6, a7, a8⟩, a9⟩
  · have hon := fun {d : Nat} {k : K} => on_call' (cp := cp) (fuel := fuel) Q D7 (b := true) (by rw [a1]; rfl) (d := d) (k := k)
    obtain ⟨G8, v8, z8, f8, g8⟩ := kept_call (cp := cp) (fuel := fuel) T hc D7 a1 (by rw [a3, hl]; omega) (by rw [a3, hl]; omega) (by omega)
    have hkk : B.1.kept = B0.1.kept := kept_eq (a3.trans (hl.trans hlB.symm)) fun k _ => by rw [a4]
    have c8 := fun {d : Nat} {k : K} => alike_call (cp := cp) (fuel := fuel) T f8.wf (g8.at_ (O := O7) D7.lt) (m7.fresh f8) (by rw [hkk]; omega) (by omega) hfu d k
    rw [decide_eq_true hkk] at c8
    obtain ⟨G9, z9, f9⟩ := works_call (cp := cp) (fuel := fuel) Q f8.wf (by omega)
    have z8' := fun {d : Nat} {k : K} => z8 (d + 5) k
    rw [a2] at z7'
    simp only [go_sem, reduceCtorEq, Nat.reduceAdd, Nat.reduceSub, Nat.reduceMul, Nat.reduceEqDiff, Nat.reduceLT, Nat.reduceDiv, Nat.reduceMod, Nat.reduceLeDiff, ↓reduceIte, c4r13, c4r14, c4r15, t6, t7, t10, t12, t13, t15, t16, hX5, e1, e2, z6', z7', hon, z8', c8, z9]
    exact hx _ _ (by simp only [go_sem, reduceCtorEq, ↓reduceIte]) ((f7.trans f8).trans f9)
  · have hon := fun {d : Nat} {k : K} => on_call' (cp := cp) (fuel := fuel) Q D7 (b := false) (by rw [a1]; rfl) (d := d) (k := k)
    rw [a2] at z7'
    simp only [go_sem, reduceCtorEq, Nat.reduceAdd, Nat.reduceSub, Nat.reduceMul, Nat.reduceEqDiff, Nat.reduceLT, Nat.reduceDiv, Nat.reduceMod, Nat.reduceLeDiff, ↓reduceIte, c4r13, c4r14, c4r15, c4r16, t6, t7, t10, t12, t13, t15, t16, hX5, e1, e2, z6', z7', hon]
    obtain ⟨an, nn', un, gn, hRD, hgn⟩ := a8 (bs.take 300)
    refine all_wake Q hcm hca hcb D7 f7 o7 a1 a6 a7 (a5.trans hl) hRD k7 m7 hkA hkB hk' hkl hX hXn hf0 hf1 (fun C hC hC2 => ?_) hfu ?_ ?_ ?_ ?_ ?_ hx
    · rcases hgn with h | h
      · exact Or.inl (kept_eq (hC.trans hl.symm) fun k hk => (hC2 k hk).trans (h k hk))
      · exact Or.inr (kept_eq (hC.trans hlB.symm) fun k hk => ((hC2 k hk).trans (h k hk)).trans ((hdid.yes a9).1 k hk).symm)
    · simp only [go_sem, reduceCtorEq, ↓reduceIte, t6]
    · simp only [go_sem, reduceCtorEq, ↓reduceIte, t7]
    · simp only [go_sem, reduceCtorEq, ↓reduceIte, t10]
    · simp only [go_sem, reduceCtorEq, ↓reduceIte, t12]
    · simp only [go_sem, reduceCtorEq, ↓reduceIte, t16]
end
end Go.Ev
end
section
namespace Go.Ev
section
variable {cp : RC → CodeE} {t : Nat → Option FnE} {fuel : Nat} {H : Heap} {pk : List UInt8 → List (List UInt8)} {unpk : List (List UInt8) → Option (List UInt8)}
theorem ahead_loop4 (Q : TJ t pk unpk) {va v5 v6 v7 : V} {p : Nat} {pss : List (List Pt)} (hva : PssAt H va pss) (hnb : pss.length < 9223372036854775808) (hfu : 10000 < fuel) :
    ∀ (m i : Nat) (G : Heap) (A : AD) (O : Nat → Prop), i + m = min pss.length 4 → JS pk H G p A O →
    ∃ G' A' O', JS pk H G' p A' O' ∧ ∀ (d : Nat) (kx : Nat → KE) (rr : Nat) (e : Env), m < rr → pget ⟨.i0, .i0, .i0⟩ e = va → pget ⟨.i0, .i0, .i5⟩ e = v5 → pget ⟨.i0, .i0, .i6⟩ e = v6 → pget ⟨.i0, .i0, .i7⟩ e = v7 → pget ⟨.i0, .i1, .i0⟩ e = .ptr p 0 → pget ⟨.i0, .i1, .i1⟩ e = .int 3 i →
      ∀ x : R, (∀ e', pget ⟨.i0, .i0, .i5⟩ e' = v5 → pget ⟨.i0, .i0, .i6⟩ e' = v6 → pget ⟨.i0, .i0, .i7⟩ e' = v7 → pget ⟨.i0, .i1, .i0⟩ e' = .ptr p 0 → kx 1 e' G' = x) →
      evL c4l0 fuel (evP cp t fuel (d + 9)) kx rr e G = x := by
  intro m
  induction m with
  | zero =>
    intro i G A O hi S
    refine ⟨G, A, O, S, fun d kx rr e hrr h0 h5 h6 h7 h10 h11 x hT => ?_⟩
    obtain ⟨rr, rfl⟩ : ∃ q, rr = q + 1 := ⟨rr - 1, by omega⟩
    have n1 : nn i := by unfold nn; omega
    have n2 : nn 4 := by unfold nn; omega
    have n0 : nn 0 := by unfold nn; omega
    rw [evL_succ]
    rcases hva with ⟨rfl | ⟨b, o, c, s, rfl⟩, rfl⟩ | ⟨b, o, c, s, row, rfl, hb, hbn, hrow⟩
    · have i0 : i = 0 := by simp only [List.length_nil] at hi; omega
      subst i0
      simp only [go_sem, reduceCtorEq, Nat.reduceAdd, Nat.reduceSub, Nat.reduceMul, Nat.reduceEqDiff, Nat.reduceLT, Nat.reduceDiv, Nat.reduceMod, Nat.reduceLeDiff, ↓reduceIte, c4l0, h0, h5, h6, h7, h10, h11, n0, Nat.lt_irrefl]
      exact hT _ (by simp only [go_sem, reduceCtorEq, ↓reduceIte, h5]) (by simp only [go_sem, reduceCtorEq, ↓reduceIte, h6]) (by simp only [go_sem, reduceCtorEq, ↓reduceIte, h7]) (by simp only [go_sem, reduceCtorEq, ↓reduceIte, h10])
    · have i0 : i = 0 := by simp only [List.length_nil] at hi; omega
      have e1 : (0 : Nat) < 9223372036854775808 := by omega
      subst i0
      simp only [go_sem, reduceCtorEq, Nat.reduceAdd, Nat.reduceSub, Nat.reduceMul, Nat.reduceEqDiff, Nat.reduceLT, Nat.reduceDiv, Nat.reduceMod, Nat.reduceLeDiff, ↓reduceIte, c4l0, h0, h5, h6, h7, h10, h11, n0, e1, Nat.lt_irrefl]
      exact hT _ (by simp only [go_sem, reduceCtorEq, ↓reduceIte, h5]) (by simp only [go_sem, reduceCtorEq, ↓reduceIte, h6]) (by simp only [go_sem, reduceCtorEq, ↓reduceIte, h7]) (by simp only [go_sem, reduceCtorEq, ↓reduceIte, h10])
    · have n3 : nn pss.length := by unfold nn; omega
      by_cases hin : i < pss.length
      · have e1 : ¬ i < 4 := by omega
        simp only [go_sem, reduceCtorEq, Nat.reduceAdd, Nat.reduceSub, Nat.reduceMul, Nat.reduceEqDiff, Nat.reduceLT, Nat.reduceDiv, Nat.reduceMod, Nat.reduceLeDiff, ↓reduceIte, c4l0, h0, h5, h6, h7, h10, h11, n1, n2, n3, hin, e1, hnb]
        exact hT _ (by simp only [go_sem, reduceCtorEq, ↓reduceIte, h5]) (by simp only [go_sem, reduceCtorEq, ↓reduceIte, h6]) (by simp only [go_sem, reduceCtorEq, ↓reduceIte, h7]) (by simp only [go_sem, reduceCtorEq, ↓reduceIte, h10])
      · simp only [go_sem, reduceCtorEq, Nat.reduceAdd, Nat.reduceSub, Nat.reduceMul, Nat.reduceEqDiff, Nat.reduceLT, Nat.reduceDiv, Nat.reduceMod, Nat.reduceLeDiff, ↓reduceIte, c4l0, h0, h5, h6, h7, h10, h11, n1, n2, n3, hin, hnb]
        exact hT _ (by simp only [go_sem, reduceCtorEq, ↓reduceIte, h5]) (by simp only [go_sem, reduceCtorEq, ↓reduceIte, h6]) (by simp only [go_sem, reduceCtorEq, ↓reduceIte, h7]) (by simp only [go_sem, reduceCtorEq, ↓reduceIte, h10])
  | succ m ih =>
    intro i G A O hi S
    rcases hva with ⟨_, rfl⟩ | ⟨b, o, c, s, row, rfl, hb, hbn, hrow⟩
    · simp only [List.length_nil] at hi; omega
    have hin : i < pss.length := by omega
    have hi4 : i < 4 := by omega
    obtain ⟨w, q1, q2, q3⟩ := hrow i pss[i] (by simp [hin])
    obtain ⟨G1, vw, G2, B, O2, c1w, c2c, hd, S2, s2⟩ := jcommit (cp := cp) (fuel := fuel) Q S q2 q3 hfu
    obtain ⟨G', A', O', S', hL⟩ := ih (i + 1) G2 B.1 O2 (by omega) S2
    refine ⟨G', A', O', S', fun d kx rr e hrr h0 h5 h6 h7 h10 h11 x hT => ?_⟩
    obtain ⟨rr, rfl⟩ : ∃ q, rr = q + 1 := ⟨rr - 1, by omega⟩
    have n1 : nn i := by unfold nn; omega
    have n2 : nn 4 := by unfold nn; omega
    have n3 : nn pss.length := by unfold nn; omega
    have e3 : (i + 1) % 18446744073709551616 = i + 1 := by omega
    have e6 : i < 9223372036854775808 := by omega
    have hone : w.one = true := by rcases q2 with ⟨rfl | ⟨_, _, _, _, rfl⟩, _⟩ | ⟨_, _, _, _, _, rfl, _⟩ <;> rfl
    have g1 : isRow (G.get b) row := by rw [S.fresh.same b hbn]; exact hb
    have hrd : ∀ {id : Nat} {k : V → R}, rdB id (G.get b) (o + i) k = k w := rd_row g1 q1 hone
    have c1' := fun {d : Nat} {k : K} => c1w (d + 8) k
    have c2' := fun {d : Nat} {k : K} => c2c (d + 2) k
    rw [evL_succ]
    simp only [go_sem, reduceCtorEq, Nat.reduceAdd, Nat.reduceSub, Nat.reduceMul, Nat.reduceEqDiff, Nat.reduceLT, Nat.reduceDiv, Nat.reduceMod, Nat.reduceLeDiff, ↓reduceIte, c4l0, h0, h5, h6, h7, h10, h11, n1, n2, n3, hin, hi4, hnb, e3, e6, hrd, c1', c2']
    refine hL d kx rr _ (by omega) ?_ ?_ ?_ ?_ ?_ ?_ x hT <;> simp only [go_sem, reduceCtorEq, ↓reduceIte, h0, h5, h6, h7, h10]
theorem KpAt.one {v : V} {bs : List Bool} (h : KpAt H v bs) : v.one = true := by
  rcases h with ⟨rfl | ⟨_, _, _, _, rfl⟩, _⟩ | ⟨_, _, _, _, _, rfl, _⟩ <;> rfl
theorem PsAt.one {v : V} {ps : List Pt} (h : PsAt H v ps) : v.one = true := by
  rcases h with ⟨rfl | ⟨_, _, _, _, rfl⟩, _⟩ | ⟨_, _, _, _, _, rfl, _⟩ <;> rfl
set_option maxHeartbeats 1000000 in
theorem journalAll_call (Q : TJ t pk unpk) (hcm : t 40 = some (.nat nCopyM)) (hca : cp r20.1 = c20a) (hcb : cp r20.2 = c20b)
    (hw : H.wf) {va vL vk : V} {f0 f1 : Nat} {pss : List (List Pt)} {ps : List Pt} {bs : List Bool} (hva : PssAt H va pss) (hnb : pss.length < 9223372036854775808) (hvL : PsAt H vL ps) (hn1 : ps.length < 9223372036854775808) (hk : KpAt H vk bs) (hkc : CapOK vk) (hkb : bs.length < 9223372036854775808) (hf0 : f0 < 256) (hf1 : f1 < 256) (hfu : 1000000 < fuel)
    (d : Nat) (k : K) (x : R) (hx : ∀ H', Fresh H H' → k (.bool true) H' = x) : callP (evP cp t fuel (d + 10)) (.func 8 []) [va, .agg [vL, .int 4 f0, .int 4 f1, vk]] H k = x := by
  have Q' := Q
  obtain ⟨T, hc, F, hp, hu⟩ := Q'
  have i1 : ∀ {id : Nat} {k : R}, isOne id vL k = k := fun {id k} => by have h := hvL.one; revert h; cases vL <;> intro h <;> first | rfl | cases h
  have i2 : ∀ {id : Nat} {k : R}, isOne id vk k = k := fun {id k} => by have h := hk.one; revert h; cases vk <;> intro h <;> first | rfl | cases h
  have fA : Fresh H ((H.new (.cells [vL, .int 4 f0, .int 4 f1, vk])).new (.bytes 2 0)) := (Fresh.new hw).trans (Fresh.new (by rw [Heap.wf_new]; exact hw))
  have fB : Fresh H (((H.new (.cells [vL, .int 4 f0, .int 4 f1, vk])).new (.bytes 2 0)).put (H.n + 1) (.bytes 2 (f0 + 256 * f1))) := fA.put (by omega) (by simp only [Heap.n_new]; omega)
  have gX : (((H.new (.cells [vL, .int 4 f0, .int 4 f1, vk])).new (.bytes 2 0)).put (H.n + 1) (.bytes 2 (f0 + 256 * f1))).get (H.n + 1) = .bytes 2 (f0 + 256 * f1) := by
    rw [Heap.get_put fA.wf (by simp only [Heap.n_new]; omega), if_pos rfl]
  have gn : (((H.new (.cells [vL, .int 4 f0, .int 4 f1, vk])).new (.bytes 2 0)).put (H.n + 1) (.bytes 2 (f0 + 256 * f1))).n = H.n + 1 + 1 := by simp only [Heap.n_put, Heap.n_new]
  have eP : putB 0 0 2 (f0 + 256 * f1) = f0 + 256 * f1 := by
    unfold putB; rw [Nat.zero_shiftRight]; omega
  have e1 : H.n + 1 < H.n + 1 + 1 := by omega
  have e2 : H.n + 1 ≤ H.n + 1 + 1 := by omega
  rw [call_entry T.k4 rfl rfl]
  simp only [go_sem, reduceCtorEq, Nat.reduceAdd, Nat.reduceSub, Nat.reduceMul, Nat.reduceEqDiff, Nat.reduceLT, Nat.reduceDiv, Nat.reduceMod, Nat.reduceLeDiff, ↓reduceIte, c4, hw, i1, i2]
  simp only [go_sem, reduceCtorEq, Nat.reduceAdd, Nat.reduceSub, Nat.reduceMul, Nat.reduceEqDiff, Nat.reduceLT, Nat.reduceDiv, Nat.reduceMod, Nat.reduceLeDiff, ↓reduceIte, c4r1, evC_freg, evFreg_0, evFreg_1, hw, i1, i2]
  refine (evFreg_2 (b := H.n) (o := 3) (v := vk) (by simp only [go_sem, reduceCtorEq, ↓reduceIte]) (by first | omega | (simp only [go_sem, reduceCtorEq, Nat.reduceAdd, Nat.reduceSub, Nat.reduceMul, Nat.reduceEqDiff, Nat.reduceLT, Nat.reduceDiv, Nat.reduceMod, Nat.reduceLeDiff, ↓reduceIte]; omega)) (fun k => by simp only [go_sem, reduceCtorEq, Nat.reduceAdd, Nat.reduceSub, Nat.reduceMul, Nat.reduceEqDiff, Nat.reduceLT, Nat.reduceDiv, Nat.reduceMod, Nat.reduceLeDiff, ↓reduceIte, hw, i1, i2]) (fun k => apartN_nil)).trans ?_
  simp only [go_sem, reduceCtorEq, Nat.reduceAdd, Nat.reduceSub, Nat.reduceMul, Nat.reduceEqDiff, Nat.reduceLT, Nat.reduceDiv, Nat.reduceMod, Nat.reduceLeDiff, ↓reduceIte, evFreg_0, evFreg_1, hw, i1, i2]
  refine Eq.trans (evFreg_3 (b := H.n + 1) (o := 0) (v := .tup []) (H' := ((H.new (.cells [vL, .int 4 f0, .int 4 f1, vk])).new (.bytes 2 0)).put (H.n + 1) (.bytes 2 (f0 + 256 * f1))) ?_ (fun k => ?_) (fun k => ?_)) ?_
  · simp only [go_sem, reduceCtorEq, ↓reduceIte]
  · simp only [go_sem, reduceCtorEq, Nat.reduceAdd, Nat.reduceSub, Nat.reduceMul, Nat.reduceEqDiff, Nat.reduceLT, Nat.reduceDiv, Nat.reduceMod, Nat.reduceLeDiff, ↓reduceIte, hw, e1, eP]
  · rw [apartN_cons, if_neg (by decide), if_neg (by omega)]; exact apartN_nil
  simp only [go_sem, reduceCtorEq, Nat.reduceAdd, Nat.reduceSub, Nat.reduceMul, Nat.reduceEqDiff, Nat.reduceLT, Nat.reduceDiv, Nat.reduceMod, Nat.reduceLeDiff, ↓reduceIte, evFreg_0, evFreg_nil, hw]
  generalize ((H.new (.cells [vL, .int 4 f0, .int 4 f1, vk])).new (.bytes 2 0)).put (H.n + 1) (.bytes 2 (f0 + 256 * f1)) = HB at fB gX gn ⊢
  obtain ⟨H1, p, O1, z1, S1⟩ := jready (cp := cp) (fuel := fuel) Q fB.wf (by omega)
  obtain ⟨H2, A2, O2, S2, hL2⟩ := ahead_loop4 (cp := cp) (fuel := fuel) (v5 := vL) (v6 := .ptr (H.n + 1) 0) (v7 := vk) Q (hva.fresh fB) hnb (by omega) (min pss.length 4) 0 H1 A0 O1 (by omega) S1
  have z1' := fun {d : Nat} {k : K} => z1 (d + 1) k
  simp only [go_sem, reduceCtorEq, Nat.reduceAdd, Nat.reduceSub, Nat.reduceMul, Nat.reduceEqDiff, Nat.reduceLT, Nat.reduceDiv, Nat.reduceMod, Nat.reduceLeDiff, ↓reduceIte, c4r2, c4r3, c4r4, z1']
  refine hL2 d _ fuel _ (by omega) ?_ ?_ ?_ ?_ ?_ ?_ _ (fun e' h5 h6 h7 h10 => ?_)
  · simp only [go_sem, reduceCtorEq, ↓reduceIte]
  · simp only [go_sem, reduceCtorEq, ↓reduceIte]
  · simp only [go_sem, reduceCtorEq, ↓reduceIte]
  · simp only [go_sem, reduceCtorEq, ↓reduceIte]
  · simp only [go_sem, reduceCtorEq, ↓reduceIte]
  · simp only [go_sem, reduceCtorEq, ↓reduceIte]
  simp only [go_sem, reduceCtorEq, Nat.reduceAdd, Nat.reduceSub, Nat.reduceMul, Nat.reduceEqDiff, Nat.reduceLT, Nat.reduceDiv, Nat.reduceMod, Nat.reduceLeDiff, ↓reduceIte]
  refine all_body Q hcm hca hcb S2 (hvL.fresh fB) hn1 (hk.fresh fB) hkc hkb gX (by omega) hf0 hf1 hfu h5 h6 h7 h10 fun e' G' q1 q2 => ?_
  simp only [go_sem, reduceCtorEq, Nat.reduceAdd, Nat.reduceSub, Nat.reduceMul, Nat.reduceEqDiff, Nat.reduceLT, Nat.reduceDiv, Nat.reduceMod, Nat.reduceLeDiff, ↓reduceIte, q1]
  exact hx _ (fB.trans q2)
end
end Go.Ev
end
section
namespace Go.Ev
open Go.Deep Go.ChangeShapes Go.WideShapes Go.RowKit
section
variable {H : Type} {enc : TypeId × Value → H} {P : Program} {w : World}
theorem cap_seen {t e : TypeId} {fuel : Nat} {v : Value} {x : DataW H × List MemPlace} (ht : P.underlying t = some (.slice e)) (h : DataW.trod enc P w 0 (fun _ => true) true fuel t [v] = some x) (h1 : (vOf w.heap.size v).one = true) : CapOK (vOf w.heap.size v) := by
  rcases open_slice ht h with ⟨hcs, _⟩ | ⟨a, len, cap, m, n, D, Pl, hcs, _, hl, hm, hmc, _, hx⟩
  · cases hcs; exact Or.inl rfl
  · simp only [List.cons.injEq, and_true] at hcs
    subst hcs
    have hv : vOf w.heap.size (.slice (some a) len cap) = if len ≤ cap then (if a.spot = none ∧ a.block < w.heap.size then V.slice a.block a.off len (cap + 1) 0 else if cap = 0 then V.slice w.heap.size a.off 0 1 0 else V.tup []) else V.tup [] := rfl
    rw [if_pos hl] at hv
    by_cases h2 : a.spot = none ∧ a.block < w.heap.size
    · rw [if_pos h2] at hv
      exact Or.inr ⟨_, _, _, _, _, hv, Or.inr ⟨by omega, by omega⟩⟩
    · rw [if_neg h2] at hv
      by_cases h3 : cap = 0
      · rw [if_pos h3] at hv
        exact Or.inr ⟨_, _, _, _, _, hv, Or.inr ⟨by omega, by omega⟩⟩
      · rw [if_neg h3] at hv
        rw [hv] at h1; cases h1
theorem kp_seen {t e : TypeId} {fuel : Nat} {v : Value} {x : DataW H × List MemPlace} (ht : P.underlying t = some (.slice e)) (hz : P.cellsOf e = 1) (he : P.underlying e = some .bool) (h : DataW.trod enc P w 0 (fun _ => true) true fuel t [v] = some x) (hnf : w.noneFrozen x.2) :
    (vOf w.heap.size v).one = true ∧ CapOK (vOf w.heap.size v) ∧ ∃ bs, KpAt (adopt w) (vOf w.heap.size v) bs ∧ bs.length < 9223372036854775808 := by
  obtain ⟨h1, h2⟩ := slice_seen ht hz (by omega) h hnf
  refine ⟨h1, cap_seen ht h h1, ?_⟩
  rcases h2 with h2 | ⟨b, o, len, c, row, hl0, hl, hv, hb, hbn, hx⟩
  · exact ⟨[], Or.inl ⟨h2, rfl⟩, by simp⟩
  have each : ∀ i, i < len → ∃ p : Bool, row[o + i]? = some (.bool p) := fun i hi => by
    obtain ⟨cs, n, y, hlen, hcs, htr, _⟩ := hx i hi
    match cs, hlen with
    | [v0], _ =>
      obtain ⟨b0, e0, _⟩ := DataW.trod_bool he htr
      cases e0
      have := hcs 0 _ rfl
      rw [Nat.mul_one, Nat.add_zero, vOf_bool] at this
      exact ⟨b0, this⟩
  obtain ⟨p, hp⟩ := choose_lt each
  refine ⟨(List.range len).map p, Or.inr ⟨b, o, c, 0, row, by rw [hv]; simp, Or.inr hb, hbn, fun i x hi => ?_⟩, by rw [List.length_map, List.length_range]; omega⟩
  rw [List.getElem?_map] at hi
  obtain ⟨q, h3, rfl⟩ := Option.map_eq_some_iff.1 hi
  obtain ⟨h4, h5⟩ := List.getElem?_eq_some_iff.1 h3
  rw [List.getElem_range] at h5
  subst h5
  exact hp i (by simpa using h4)
theorem u8_lt {n : Int} : (n % (2 ^ IntKind.u8.bits : Nat)).toNat < 256 := by
  have h1 : (0 : Int) ≤ n % (2 ^ IntKind.u8.bits : Nat) := Int.emod_nonneg _ (by simp [IntKind.bits])
  have h2 : n % (2 ^ IntKind.u8.bits : Nat) < (2 ^ IntKind.u8.bits : Nat) := Int.emod_lt_of_pos _ (by simp [IntKind.bits])
  simp only [IntKind.bits] at h1 h2 ⊢
  omega
theorem last_seen {t e e1 e2 : TypeId} {p0 p1 p2 : Field} {f0 f1 f2 : Field} {fuel : Nat} {cs : List Value} {x : DataW H × List MemPlace} (ht : P.underlying t = some (.struct #[f0, f1, f2])) (o0 : f0.offset = 0) (o1 : f1.offset = 1) (o2 : f2.offset = 3) (c0 : P.cellsOf f0.type = 1) (c1 : P.cellsOf f1.type = 2) (c2 : P.cellsOf f2.type = 1) (hz4 : P.cellsOf t = 4)
    (uL : P.underlying f0.type = some (.slice e)) (he : P.underlying e = some (.struct #[p0, p1, p2])) (hz : P.cellsOf e = 3) (q0 : p0.offset = 0) (q1 : p1.offset = 1) (q2 : p2.offset = 2) (z0 : P.cellsOf p0.type = 1) (z1 : P.cellsOf p1.type = 1) (z2 : P.cellsOf p2.type = 1) (u0 : P.underlying p0.type = some (.int .i64)) (u1 : P.underlying p1.type = some (.int .u8)) (u2 : P.underlying p2.type = some .bool)
    (uF : P.underlying f1.type = some (.array 2 e1)) (k1 : P.cellsOf e1 = 1) (v1 : P.underlying e1 = some (.int .u8)) (uK : P.underlying f2.type = some (.slice e2)) (k2 : P.cellsOf e2 = 1) (v2 : P.underlying e2 = some .bool)
    (h : DataW.trod enc P w 0 (fun _ => true) true fuel t cs = some x) (hnf : w.noneFrozen x.2) :
    ∃ (a b : Value) (n m : Int) (ps : List Pt) (bs : List Bool), cs = [a, .int .u8 n, .int .u8 m, b] ∧ (Lit.int .u8 n).wf = true ∧ (Lit.int .u8 m).wf = true ∧ (vOf w.heap.size a).one = true ∧ PsAt (adopt w) (vOf w.heap.size a) ps ∧ ps.length < 9223372036854775808 ∧
      (vOf w.heap.size b).one = true ∧ CapOK (vOf w.heap.size b) ∧ KpAt (adopt w) (vOf w.heap.size b) bs ∧ bs.length < 9223372036854775808 := by
  obtain ⟨xs, n', _, rfl, hlen, hxl, hf⟩ := DataW.trod_struct ht h
  rw [hz4] at hlen
  have hxl : xs.length = 3 := hxl
  match cs, hlen, xs, hxl with
  | [a, i, j, b], _, [y0, y1, y2], _ =>
    have g0 := hf 0 f0 rfl
    have g1 := hf 1 f1 rfl
    have g2 := hf 2 f2 rfl
    simp [o0, c0] at g0
    simp [o1, c1] at g1
    simp [o2, c2] at g2
    have nf0 : w.noneFrozen y0.2 := fun b off h => hnf b off (by simp [h])
    have nf2 : w.noneFrozen y2.2 := fun b off h => hnf b off (by simp [h])
    obtain ⟨one0, ps, s1, s2⟩ := ps_seen uL he hz q0 q1 q2 z0 z1 z2 u0 u1 u2 g0 nf0
    obtain ⟨one2, hcap, bs, s3, s4⟩ := kp_seen uK k2 v2 g2 nf2
    obtain ⟨ys, m', _, _, _, hyl, hel⟩ := DataW.trod_array uF g1
    have e0 := hel 0 (by omega)
    have e1' := hel 1 (by omega)
    simp [k1] at e0 e1'
    rw [List.getElem?_eq_getElem (by omega)] at e0 e1'
    obtain ⟨n0, r0, _, w0⟩ := DataW.trod_int v1 e0
    obtain ⟨n1, r1, _, w1⟩ := DataW.trod_int v1 e1'
    cases r0; cases r1
    exact ⟨a, b, _, _, ps, bs, rfl, w0, w1, one0, s1, s2, one2, hcap, s3, s4⟩
theorem called_cps (hm : P.follows .mixedOrders = true) {t : Nat → Option FnE} (ht : TabOK P t) {fuel depth : Nat} {f : FuncId} {args : List V} {cargs : Array Value} {w : World} (ha : VRs (mu (rhoOf w) (Ev.adopt w) w) args cargs.toList)
    (h : ∀ (k : K) (x : R), (∀ H', Fresh (Ev.adopt w) H' → k (.bool true) H' = x) → callP (evP (compRC P) t fuel depth) (.func (2 * f) []) args (Ev.adopt w) k = x) :
    Calls P f cargs w fun e w' => e = .returned (.bool true) ∧ Below w.heap.size w w' := by
  obtain ⟨v, H2, h1, h2⟩ := evP_ok hm ht fuel depth (.func (2 * f) []) args (Ev.adopt w) (fun v H2 => @ite _ (v = .bool true ∧ w.heap.size + 1 ≤ H2.wlo) (Classical.propDecidable _) 1 0) (h _ 1 fun H' hF => by
    rw [if_pos]
    exact ⟨rfl, hF.lo _ (by rw [adopt_wlo]; exact Nat.le_refl _) (by rw [adopt_n]; exact Nat.le_refl _)⟩)
  have h3 : v = .bool true ∧ w.heap.size + 1 ≤ H2.wlo := by
    by_cases hh : v = .bool true ∧ w.heap.size + 1 ≤ H2.wlo
    · exact hh
    · simp only [if_neg hh] at h2
      exact absurd h2 (by decide)
  obtain ⟨rfl, hlo⟩ := h3
  have h4 := h1.2 f [] rfl
  rw [List.append_nil] at h4
  obtain ⟨_, h5⟩ := h4 0 w (rhoOf w) w cargs (PR.adopt w) ha
  refine CallsIn.calls (h5.mono fun e w' he => ?_) fun k => by simp [Fence.room]
  obtain ⟨cv, rfl, rho', h6, h7, h8⟩ := he
  simp only [VR] at h6
  subst h6
  refine ⟨rfl, h7.below.os, h7.below.tape, h7.below.output, h7.below.size, fun k hk => h8.fr k hk fun b hb => ?_⟩
  have := (PR.adopt (P := P) w).lt b k hb
  rw [adopt_n] at this
  omega
end
end Go.Ev
end
