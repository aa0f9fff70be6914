/- LE: a part of the evaluator, of its logic, or of the laws' walk in it. -/
import Derived.Test.YtmegpbadkojhbaaGreatDoorLD
import Derived.Test.YtmegpbadkojhbaaGreatDoorLA
import Derived.Test.YtmegpbadkojhbaaGreatDoorLg
import Derived.ChangeArms
set_option linter.unusedVariables false
set_option linter.unusedSimpArgs false
set_option linter.unusedSectionVars false
section
namespace Go.Ev
def F0 : AD := ⟨446, 446, 0, false, [], []⟩
def W0 : List Wr := [(145, tx (hdT 0 18446744073709551615 0))]
theorem W0_may : mayP 446 [] W0 = true := mayP_of (fun w hw => by
  rw [List.mem_singleton.1 hw]
  exact ⟨⟨by show 145 ≤ 145; omega, by show 145 < 446; omega, sec_length (hd32 _ _ _)⟩, fun h => (by cases h)⟩) (by simp [W0])
theorem may0 : mayK 0 18446744073709551615 [] = true := by
  have h1 : evCF (.lt 9223372036854775808 18446744073709551616) 18446744073709551615 18446744073709551615 = false := by rfl
  have h2 : evCF (.ge 9223372036854775808 18446744073709551616) 18446744073709551615 3 = false := by rfl
  have hc : checkE [] = 0 := by
    unfold checkE
    rw [if_neg (by simp), if_neg (by simp [upE])]
  unfold mayK
  rw [if_pos hc, if_neg (by rw [h1]; exact Bool.false_ne_true), if_neg (by rw [h2]; exact Bool.false_ne_true), if_pos (show ([] : List Ent).length = 0 from rfl)]
theorem ok0 : OkK 0 18446744073709551615 [] := ⟨by omega, by omega, by omega, by simp, fun e h => (by cases h)⟩
section
variable {cp : RC → CodeE} {t : Nat → Option FnE} {fuel : Nat} {H : Heap} {pk : List UInt8 → List (List UInt8)} {unpk : List (List UInt8) → Option (List UInt8)}
theorem kformat_call (T : TCode t) (hc : HasClone t) (F : FrameOK pk unpk) (hp : t 104 = some (.nat (nPack pk))) {H0 : Heap} {dp : Nat} {O : Nat → Prop} (fr : Fresh H0 H) (hD : Disk H dp F0 O) (own : ∀ b, O b → H0.n ≤ b) (hfu : 1000000 < fuel) :
    ∃ H' A' O', (∀ (d : Nat) (k : K), callP (evP cp t fuel (d + 8)) (.func 34 []) [.ptr dp 0] H k = k (.int 3 0) H') ∧ Fresh H0 H' ∧ Disk H' dp A' O' ∧ (∀ b, O' b → H0.n ≤ b) ∧ (∃ a n us, JD pk A' a n us) ∧ A'.fuse = 0 ∧ A'.len = 446 ∧ A'.room = 446 ∧ HasK A' 0 18446744073709551615 [] ∧ ∀ i, A'.read (146 + i) = (32, 0) := by
  obtain ⟨G1, O1, z1, s1, D1⟩ := format_call (cp := cp) (fuel := fuel) T hc hD rfl (by show 145 < 446; omega) (by show 446 ≤ 1024; omega) (by show 0 < _; omega) (by show 0 < _; omega) (Or.inr (by show 0 < 446; omega)) (by omega)
  obtain ⟨J, j2, j3, j4⟩ := JD.start (pk := pk) (A := F0) (by show 145 < 446; omega) (by show 446 ≤ 1024; omega) rfl EsOK.nil rfl
  rw [j3] at z1
  obtain ⟨b1, b2, b3, b4⟩ := j4
  generalize (F0.runs [[(0, tx (hdr 0 0))]]).1 = B at D1 J j2 b1 b2 b3 b4
  have hl : B.len = 446 := b1
  have hr : B.room = 446 := b2
  obtain ⟨fr1, own1⟩ := fr.own s1 own
  have w1 := fr1.wf
  -- head
  have f2 : Fresh G1 G1 := Fresh.refl w1
  obtain ⟨G2, z2, f3⟩ := khead_call (cp := cp) (fuel := fuel) (H := G1) (term := 0) (voted := 18446744073709551615) (v := .nils) (es := []) (O := fun _ => False) T w1 (by omega) (by omega) (Or.inl ⟨Or.inl rfl, rfl⟩) (by simp) (by omega)
  have w2 := f3.wf
  have f4 : Fresh G2 (G2.new (.cells (encW W0))) := Fresh.new w2
  have g4 : (G2.new (.cells (encW W0))).get G2.n = .cells (encW W0) := by rw [Heap.get_new w2, if_pos rfl]
  have D4 := (D1.fresh f3).fresh f4
  have hok : ∀ w ∈ W0, okT w.2 := fun w hw => by rw [List.mem_singleton.1 hw]; exact enc_lt _
  obtain ⟨G5, O5, z5, s5, D5⟩ := commit_call (cp := cp) (fuel := fuel) (v := .slice G2.n 0 1 2 0) (ws := W0) T hc F hp D4 J.rec_.can (Or.inr ⟨G2.n, 2, 0, rfl, g4, by rw [Heap.n_new]; omega, fun hb => by have := D1.lt _ hb; have := f3.n; omega⟩) (fun w hw => ⟨by rw [List.mem_singleton.1 hw]; show 145 < _; omega, by rw [List.mem_singleton.1 hw]; show (hdT _ _ _).length < _; rw [show (hdT 0 18446744073709551615 0).length = 32 from sec_length (hd32 _ _ _)]; omega, hok w hw⟩) (by show 1 < 10000; omega) (by omega)
  have hcode := J.code F j2 (by omega) hok
  have h0 : (B.commit pk 0 W0).2 = 0 := by
    rw [hcode]; unfold Ev.code
    rw [if_neg (by show ¬ 1 = 0; omega), if_neg (by show ¬ 60 < 1; omega), if_neg (by rw [hl, W0_may]; exact Bool.noConfusion)]
  have hdid := J.commit F j2 hok
  rw [h0] at z5
  obtain ⟨fr5, own5⟩ := ((fr1.trans f3).trans f4).own s5 own1
  refine ⟨G5, _, O5, fun d k => ?_, fr5, D5, own5, hdid.jd, hdid.fuse, hdid.len.trans hl, hdid.room.trans hr, ⟨by rw [hdid.len, hl]; omega, by rw [hdid.len, hl]; omega, ?_, fun i e h => (by cases h)⟩, fun i => ?_⟩
  · have hL : ∀ {d : Nat} {k : K}, callP (evP cp t fuel (d + 1)) (.func 90 []) [.ptr dp 0] H k = k (.int 3 446) H := fun {d k} => by rw [len_all (T.disk4 hc) hD]; rfl
    have n1 : nn 446 := by unfold nn; omega
    have e1 : ¬ (446 : Nat) < 446 := by omega
    have z1' := fun {k : K} => z1 d k
    have z2' := fun {k : K} => z2 (d + 3) k
    have z5' := fun {k : K} => z5 d k
    have hG4 : G2.new (.cells [.int 3 145, .str (hdT 0 18446744073709551615 0).length (enc (hdT 0 18446744073709551615 0))]) = G2.new (.cells (encW W0)) := rfl
    simp only [tv, List.length_nil] at z2'
    rw [call_entry T.k17 rfl rfl]
    simp only [go_sem, ↓op_app, reduceCtorEq, Nat.reduceAdd, Nat.reduceSub, Nat.reduceMul, Nat.reduceEqDiff, Nat.reduceLT, Nat.reduceDiv, Nat.reduceMod, Nat.reduceLeDiff, ↓reduceIte, c17, hL, n1, e1, z1', z2', w2, hG4, z5']
  · have := (hdid.yes h0).1 145 (by omega)
    rw [AD.read, this]
    show (find (updS B.es 145 (tx (hdT 0 18446744073709551615 0))) 145).getD (32, 0) = _
    rw [find_updS, if_pos rfl]
    rfl
  · have := (hdid.yes h0).1 (146 + i) (by omega)
    rw [AD.read, this]
    show (find (updS B.es 145 (tx (hdT 0 18446744073709551615 0))) (146 + i)).getD (32, 0) = _
    rw [find_updS, if_neg (by omega), b4, find_updS, if_neg (by omega)]
    rfl
theorem made_call (T : TCode t) (hc : HasClone t) (F : FrameOK pk unpk) (hp : t 104 = some (.nat (nPack pk))) (hu : t 74 = some (.nat (nUnpack unpk))) (hw : H.wf) (hfu : 1000000 < fuel) :
    ∃ H' dp kp A O vl, (∀ (d : Nat) (k : Go.Ev.K), callP (evP cp t fuel (d + 9)) (.func 16 []) [] H k = k (.tup [.ptr dp 0, .ptr kp 0]) H') ∧ KS pk H H' dp kp A O 0 18446744073709551615 vl [] ∧ ∀ i, A.read (146 + i) = (32, 0) := by
  obtain ⟨G1, dp, O1, z1, D1, f1, o1⟩ := new_all (cp := cp) (fuel := fuel) (n := 446) (r := 446) (T.disk4 hc) hw (by omega) (by omega) (by unfold nn; omega)
  obtain ⟨G2, A2, O2, z2, f2, D2, o2, ⟨a, n, us, J⟩, j2, j3, j4, hK, hZ⟩ := kformat_call (cp := cp) (fuel := fuel) T hc F hp f1 D1 o1 hfu
  obtain ⟨r1, r2, hrz, r3, r4, r5⟩ := J.recovered j2
  have hK2 : HasK (A2.recover n us).1 0 18446744073709551615 [] := ⟨by rw [r3]; exact hK.lo, by rw [r3]; exact hK.hi, by rw [AD.read, r5]; exact hK.head, fun i e h => (by cases h)⟩
  obtain ⟨G3, O3, kp, vl, z3, s3, D3, kat, hlc, hne, hkp⟩ := open_call (cp := cp) (fuel := fuel) T hc F hu D2 J.rec_ r1 r2.off hK2 ok0 may0 hfu
  obtain ⟨f3, o3⟩ := f2.own s3 o2
  refine ⟨G3, dp, kp, _, O3, vl, fun d k => ?_, ⟨f3, D3, o3, ⟨_, _, _, r2⟩, hrz, r3.trans j3, r4.trans j4, Nat.le_trans f2.n hkp, fun h => hne kp h rfl, kat, hlc, hK2, ok0⟩, fun i => by rw [AD.read, r5]; exact hZ i⟩
  have z1' := fun {k : Go.Ev.K} => z1 (d + 7) k
  have z2' := fun {k : Go.Ev.K} => z2 d k
  have z3' := fun {k : Go.Ev.K} => z3 d k
  rw [call_entry T.k8 rfl rfl]
  simp only [go_sem, ↓op_app, reduceCtorEq, Nat.reduceAdd, Nat.reduceSub, Nat.reduceMul, Nat.reduceEqDiff, Nat.reduceLT, Nat.reduceDiv, Nat.reduceMod, Nat.reduceLeDiff, ↓reduceIte, c8, z1', z2', z3']
end
end Go.Ev
end
section
namespace Go.Ev
def mE (i : Nat) : Ent := if i = 0 then (1, 1, 0, 0) else (1, 3, 1, i)
def manyL : Nat → List Ent
  | 0 => []
  | m + 1 => manyL m ++ [mE m]
theorem manyL_length : ∀ m, (manyL m).length = m
  | 0 => rfl
  | m + 1 => by simp [manyL, manyL_length m]
theorem manyL_get : ∀ {m i : Nat}, i < m → (manyL m)[i]? = some (mE i)
  | m + 1, i, h => by
    simp only [manyL]
    by_cases hi : i = m
    · subst hi
      rw [List.getElem?_append_right (by rw [manyL_length]; exact Nat.le_refl _), manyL_length, Nat.sub_self]
      rfl
    · rw [List.getElem?_append_left (by rw [manyL_length]; omega)]
      exact manyL_get (by omega)
theorem manyL_mem {m : Nat} {e : Ent} (h : e ∈ manyL m) : ∃ i, i < m ∧ e = mE i := by
  obtain ⟨i, hi, rfl⟩ := List.mem_iff_getElem.1 h
  rw [manyL_length] at hi
  have := manyL_get hi
  rw [List.getElem?_eq_getElem (by rw [manyL_length]; exact hi)] at this
  exact ⟨i, hi, Option.some.inj this⟩
theorem mE_ok {i : Nat} (h : i < 300) : okE (mE i) ∧ (mE i).2.1 ≤ 3 := by
  unfold mE okE
  split <;> simp <;> omega
theorem mE_one (i : Nat) : (mE i).1 = 1 := by unfold mE; split <;> rfl
theorem mE_right {i : Nat} (h : i < 300) : wrongE (mE i) = false := by
  have h1 : evCF (.lt 0 18446744073709551616) 1 1 = false := by rfl
  have h2 : evCF (.gt 0 18446744073709551616) 1 0 = true := by rfl
  unfold mE wrongE
  by_cases hi : i = 0
  · rw [if_pos hi]; simp [h1]
  · rw [if_neg hi]
    have h3 : evCF (.gt 0 18446744073709551616) i 0 = true := by
      have := gt_un (a := i) (b := 0) (by omega) (by omega)
      rw [this]; omega
    simp [h1, h2, h3]
theorem manyL_getD {m i : Nat} (h : i < m) : (manyL m).getD i (0, 0, 0, 0) = mE i := by rw [List.getD_eq_getElem?_getD, manyL_get h]; rfl
theorem manyL_up {n : Nat} : ∀ m, m < n → upE (manyL n) m = true
  | 0, _ => rfl
  | m + 1, h => by
    simp only [upE]
    rw [manyL_getD (by omega), manyL_getD (by omega), mE_one, mE_one, if_neg (by omega)]
    exact manyL_up m (by omega)
theorem manyL_may {n : Nat} (h1 : 1 ≤ n) (h2 : n ≤ 300) : mayK 1 0 (manyL n) = true := by
  have e1 : evCF (.lt 9223372036854775808 18446744073709551616) 0 18446744073709551615 = false := by rfl
  have e2 : evCF (.ge 9223372036854775808 18446744073709551616) 0 3 = false := by rfl
  have e3 : evCF (.ge 0 18446744073709551616) 1 1 = true := by rfl
  have hc : checkE (manyL n) = 0 := by
    unfold checkE
    rw [manyL_length, if_neg (by omega), if_neg]
    rintro (h | h)
    · rw [manyL_up _ (by omega)] at h; cases h
    · obtain ⟨e, he, hw⟩ := List.any_eq_true.1 h
      obtain ⟨i, hi, rfl⟩ := manyL_mem he
      rw [mE_right (by omega)] at hw; cases hw
  unfold mayK
  rw [if_pos hc, if_neg (by rw [e1]; exact Bool.false_ne_true), if_neg (by rw [e2]; exact Bool.false_ne_true), manyL_length, if_neg (by omega), manyL_getD (by omega), mE_one, e3]
theorem manyL_okk {n : Nat} (h2 : n ≤ 300) : OkK 1 0 (manyL n) := ⟨by omega, by omega, by omega, by rw [manyL_length]; exact h2, fun e he => by
  obtain ⟨i, hi, rfl⟩ := manyL_mem he
  exact mE_ok (by omega)⟩
section
variable {cp : RC → CodeE} {t : Nat → Option FnE} {fuel : Nat} {H : Heap}
theorem many_loop (T : TCode t) {n : Nat} (hn : n ≤ 300) :
    ∀ (q i : Nat) (G : Heap) (vg : V), i + q = n → 1 ≤ i → Fresh H G → Gr H G vg 4 i (encEnt (manyL i)) →
    ∃ G' vg', Fresh H G' ∧ Gr H G' vg' 4 n (encEnt (manyL n)) ∧ ∀ (ph : Phi) (kx : Nat → KE) (r : Nat) (e : Env), q < r → pget ⟨.i0, .i0, .i0⟩ e = .int 3 n → pget ⟨.i0, .i0, .i1⟩ e = .int 3 0 → pget ⟨.i0, .i0, .i5⟩ e = vg → pget ⟨.i0, .i0, .i6⟩ e = .int 3 i →
      ∀ x : R, (∀ e', pget ⟨.i0, .i0, .i5⟩ e' = vg' → kx 1 e' G' = x) →
      evL c9l0 fuel ph kx r e G = x := by
  intro q
  induction q with
  | zero =>
    intro i G vg hi h1 f hg
    obtain rfl : i = n := by omega
    refine ⟨G, vg, f, hg, fun ph kx r e hr h0 h1' h5 h6 x hT => ?_⟩
    obtain ⟨r, rfl⟩ : ∃ q, r = q + 1 := ⟨r - 1, by omega⟩
    have e1 : ¬ i < i := by omega
    have e2 : nn i := by unfold nn; omega
    rw [evL_succ]
    simp only [go_sem, ↓op_app, reduceCtorEq, Nat.reduceAdd, Nat.reduceSub, Nat.reduceMul, Nat.reduceEqDiff, Nat.reduceLT, Nat.reduceDiv, Nat.reduceMod, Nat.reduceLeDiff, ↓reduceIte, c9l0, h0, h1', h5, h6, e1, e2]
    exact hT _ (by simp only [go_sem, reduceCtorEq, ↓reduceIte, h5])
  | succ q ih =>
    intro i G vg hi h1 f hg
    have hw := f.wf
    have f2 : Fresh G (G.new (.cells (encEnt1 (mE i)))) := Fresh.new hw
    have g2 : (G.new (.cells (encEnt1 (mE i)))).get G.n = .cells (encEnt1 (mE i)) := by rw [Heap.get_new hw, if_pos rfl]
    obtain ⟨v', G3, hop, hg3, f3, _, _, _⟩ := Gr.app (cx := 2) (sx := 0) (f.trans f2) (hg.fresh f2) g2 rfl (by simp [encEnt1, V.one]) (by omega)
    have hs : encEnt (manyL i) ++ encEnt1 (mE i) = encEnt (manyL (i + 1)) := by simp [manyL, encEnt]
    rw [hs] at hg3
    obtain ⟨G', vg', f', hg', hL⟩ := ih (i + 1) G3 v' (by omega) (by omega) f3 hg3
    refine ⟨G', vg', f', hg', fun ph kx r e hr h0 h1' h5 h6 x hT => ?_⟩
    obtain ⟨r, rfl⟩ : ∃ q, r = q + 1 := ⟨r - 1, by omega⟩
    have e1 : i < n := by omega
    have e2 : nn i := by unfold nn; omega
    have e3 : nn n := by unfold nn; omega
    have e4 : (i + 1) % 18446744073709551616 = i + 1 := by omega
    have e5 : i % 18446744073709551616 = i := by omega
    have hm : mE i = (1, 3, 1, i) := by unfold mE; rw [if_neg (by omega)]
    rw [hm] at hop
    simp only [encEnt1] at hop
    rw [evL_succ]
    simp only [go_sem, reduceCtorEq, Nat.reduceAdd, Nat.reduceSub, Nat.reduceMul, Nat.reduceEqDiff, Nat.reduceLT, Nat.reduceDiv, Nat.reduceMod, Nat.reduceLeDiff, ↓reduceIte, c9l0, h0, h1', h5, h6, e1, e2, e3, e4, e5, hw, ↓hop]
    refine hL ph kx r _ (by omega) ?_ ?_ ?_ ?_ x hT
    · simp only [go_sem, reduceCtorEq, ↓reduceIte, h0]
    · simp only [go_sem, reduceCtorEq, ↓reduceIte, h1']
    · simp only [go_sem, reduceCtorEq, ↓reduceIte]
    · simp only [go_sem, reduceCtorEq, ↓reduceIte]
theorem many_call (T : TCode t) {n : Nat} (hw : H.wf) (h1 : 1 ≤ n) (hn : n ≤ 300) (hfu : 100000 < fuel) :
    ∃ H' v, (∀ (d : Nat) (k : K), callP (evP cp t fuel (d + 1)) (.func 18 []) [.int 3 n, .int 3 0] H k = k v H') ∧ Fresh H H' ∧ Gr H H' v 4 n (encEnt (manyL n)) := by
  have f1 : Fresh H (H.new (.cells (encEnt1 (mE 0)))) := Fresh.new hw
  have g1 : (H.new (.cells (encEnt1 (mE 0)))).get H.n = .cells (encEnt1 (mE 0)) := by rw [Heap.get_new hw, if_pos rfl]
  obtain ⟨H', v, f', hg', hL⟩ := many_loop (fuel := fuel) T hn (n - 1) 1 (H.new (.cells (encEnt1 (mE 0)))) (.slice H.n 0 1 2 0) (by omega) (Nat.le_refl _) f1 ⟨rfl, by simp [manyL, encEnt, encEnt1, V.one], Or.inr ⟨H.n, 2, 0, rfl, by omega, Or.inl rfl, by rw [g1]; simp [manyL, encEnt], Nat.le_refl _, by rw [Heap.n_new]; omega⟩⟩
  refine ⟨H', v, fun d k => ?_, f', hg'⟩
  have hG : H.new (.cells [.int 7 1, .int 3 1, .int 7 0, .int 7 0]) = H.new (.cells (encEnt1 (mE 0))) := rfl
  rw [call_entry T.k9 rfl rfl]
  simp only [go_sem, ↓op_app, reduceCtorEq, Nat.reduceAdd, Nat.reduceSub, Nat.reduceMul, Nat.reduceEqDiff, Nat.reduceLT, Nat.reduceDiv, Nat.reduceMod, Nat.reduceLeDiff, ↓reduceIte, c9, hw, hG]
  refine hL _ _ fuel _ (by omega) ?_ ?_ ?_ ?_ _ (fun e' h5 => ?_)
  · simp only [go_sem, reduceCtorEq, ↓reduceIte]
  · simp only [go_sem, reduceCtorEq, ↓reduceIte]
  · simp only [go_sem, reduceCtorEq, ↓reduceIte]
  · simp only [go_sem, reduceCtorEq, ↓reduceIte]
  simp only [go_sem, ↓op_app, reduceCtorEq, Nat.reduceAdd, Nat.reduceSub, Nat.reduceMul, Nat.reduceEqDiff, Nat.reduceLT, Nat.reduceDiv, Nat.reduceMod, Nat.reduceLeDiff, ↓reduceIte, h5]
end
end Go.Ev
end
section
namespace Go.Ev
theorem enc_first {l r : List UInt8} {b : UInt8} (h : l = b :: r) : enc l % 256 = b.toNat := by
  rw [h]
  show (b.toNat + 256 * enc r) % 256 = _
  have := b.toNat_lt
  omega
theorem pnum1 : pnum 1 = [1, 1] := by rfl
theorem enT_nz (i : Nat) : tx (enT (mE i)) ≠ (32, 0) := fun h => by
  have h2 : enc (enT (mE i)) = 0 := congrArg Prod.snd h
  have h3 : enT (mE i) = 1 :: (1 :: (nums [(mE i).2.1, (mE i).2.2.1, (mE i).2.2.2] ++ List.replicate (32 - (nums [(mE i).1, (mE i).2.1, (mE i).2.2.1, (mE i).2.2.2]).length) 0)) := by
    unfold enT sec
    have : nums [(mE i).1, (mE i).2.1, (mE i).2.2.1, (mE i).2.2.2] = pnum (mE i).1 ++ nums [(mE i).2.1, (mE i).2.2.1, (mE i).2.2.2] := rfl
    conv => lhs; rw [this]
    rw [mE_one, pnum1]
    rfl
  have h4 := enc_first h3
  rw [h2] at h4
  exact absurd h4 (by decide)
theorem tx_inj {a b : List UInt8} (h : tx a = tx b) : a = b := tv_inj (by
  have h1 : a.length = b.length := congrArg Prod.fst h
  have h2 : enc a = enc b := congrArg Prod.snd h
  unfold tv
  rw [h1, h2])
theorem pnum_inj {a b : Nat} {r s : List UInt8} (ha : a < 65536) (hb : b < 65536) (h : pnum a ++ r = pnum b ++ s) : a = b := by
  have la := be_length 8 a []
  have lb := be_length 8 b []
  simp only [List.length_nil, Nat.add_zero] at la lb
  have h1 : UInt8.ofNat (be 8 a []).length :: (be 8 a [] ++ r) = UInt8.ofNat (be 8 b []).length :: (be 8 b [] ++ s) := h
  obtain ⟨h2, h3⟩ := List.cons.inj h1
  have h4 := congrArg UInt8.toNat h2
  rw [toNat_ofNat (by omega), toNat_ofNat (by omega)] at h4
  have h5 := (List.append_inj h3 h4).1
  have h6 := congrArg fbe h5
  rwa [fbe_be (by omega), fbe_be (by omega)] at h6
theorem hd_ne {t v a b : Nat} (ha : a ≤ 300) (hb : b ≤ 300) (hab : a ≠ b) (htv : (t = 1 ∧ v = 0) ∨ (t = 0 ∧ v = 18446744073709551615)) : tx (hdT t v a) ≠ tx (hdT 1 0 b) := fun h => by
  have h1 := tx_inj h
  unfold hdT sec at h1
  rcases htv with ⟨rfl, rfl⟩ | ⟨rfl, rfl⟩
  · have e : ∀ x, nums [1, (0 + 1) % 18446744073709551616, x] = [1, 1, 1, 1] ++ pnum x := fun x => by
      show pnum 1 ++ (pnum ((0 + 1) % 18446744073709551616) ++ (pnum x ++ [])) = _
      rw [List.append_nil]; rfl
    rw [e, e, List.append_assoc, List.append_assoc] at h1
    exact hab (pnum_inj (by omega) (by omega) (List.append_cancel_left h1))
  · have e0 : nums [0, (18446744073709551615 + 1) % 18446744073709551616, a] = 0 :: (0 :: pnum a) := by
      show pnum 0 ++ (pnum ((18446744073709551615 + 1) % 18446744073709551616) ++ (pnum a ++ [])) = _
      rw [List.append_nil]; rfl
    have e1 : nums [1, (0 + 1) % 18446744073709551616, b] = 1 :: ([1, 1, 1] ++ pnum b) := by
      show pnum 1 ++ (pnum ((0 + 1) % 18446744073709551616) ++ (pnum b ++ [])) = _
      rw [List.append_nil]; rfl
    rw [e0, e1] at h1
    simp at h1
theorem difW_grow {A : AD} {t v h n : Nat} (hK : HasK A t v (manyL h)) (hz : ∀ i, h ≤ i → A.read (146 + i) = (32, 0)) (hn : n ≤ 300) (hh : h < n) (htv : (t = 1 ∧ v = 0) ∨ (t = 0 ∧ v = 18446744073709551615)) : (difW A (ssOf 1 0 (manyL n)) (1 + n)).length = n - h + 1 := by
  have hd : A.read 145 ≠ tx ((ssOf 1 0 (manyL n)).getD 0 []) := by
    rw [hK.head, manyL_length]
    show _ ≠ tx (hdT 1 0 (manyL n).length)
    rw [manyL_length]
    exact hd_ne (by omega) hn (by omega) htv
  have hen : ∀ i, i < n → (ssOf 1 0 (manyL n)).getD (1 + i) [] = enT (mE i) := fun i hi => by
    rw [Nat.add_comm, ssOf, List.getD_cons_succ, List.getD_eq_getElem?_getD, List.getElem?_map, manyL_get hi]
    rfl
  have key : ∀ j, j ≤ n → (difW A (ssOf 1 0 (manyL n)) (1 + j)).length = (j - h) + 1 := by
    intro j
    induction j with
    | zero =>
      intro _
      show (difW A _ 0 ++ if A.read (145 + 0) = _ then [] else _).length = _
      rw [if_neg hd]
      simp [difW]
    | succ j ih =>
      intro hj
      have ih := ih (by omega)
      show (difW A (ssOf 1 0 (manyL n)) (1 + j) ++ if A.read (145 + (1 + j)) = tx ((ssOf 1 0 (manyL n)).getD (1 + j) []) then [] else [(145 + (1 + j), tx ((ssOf 1 0 (manyL n)).getD (1 + j) []))]).length = _
      rw [List.length_append, ih, hen j (by omega), show 145 + (1 + j) = 146 + j by omega]
      by_cases hjh : j < h
      · rw [if_pos (hK.ents j _ (manyL_get hjh))]
        simp only [List.length_nil]; omega
      · rw [hz j (by omega), if_neg (fun e => enT_nz j e.symm)]
        simp only [List.length_cons, List.length_nil]; omega
  exact key n (Nat.le_refl _)
theorem difW_zero {A B : AD} {h n : Nat} (hz : ∀ i, h ≤ i → A.read (146 + i) = (32, 0)) (hh : h ≤ n) (hB : ∀ k, 145 ≤ k → find B.es k = find (laid A.es (difW A (ssOf 1 0 (manyL n)) (1 + n))) k) : ∀ i, n ≤ i → B.read (146 + i) = (32, 0) := fun i hi => by
  rw [AD.read, hB _ (by omega), find_laid_not (fun hm => ?_)]
  · exact hz i (by omega)
  · obtain ⟨w, hw, e⟩ := List.mem_map.1 hm
    obtain ⟨j, hj, rfl⟩ := difW_mem hw
    have : 145 + j = 146 + i := e
    omega
end Go.Ev
end
section
namespace Go.Ev
noncomputable def nWorks (args : List V) (H : Heap) (k : K) : R := match args with
  | [] => k (.bool true) H
  | _ => no 0
def At (t v h : Nat) : Prop := (h = 0 ∧ t = 0 ∧ v = 18446744073709551615) ∨ (0 < h ∧ t = 1 ∧ v = 0)
theorem At.tv {t v h : Nat} (a : At t v h) : (t = 1 ∧ v = 0) ∨ (t = 0 ∧ v = 18446744073709551615) := by
  rcases a with ⟨_, h1, h2⟩ | ⟨_, h1, h2⟩
  · exact Or.inr ⟨h1, h2⟩
  · exact Or.inl ⟨h1, h2⟩
theorem EsRow.short {row : List V} {o n m : Nat} (h : EsRow row o (manyL n)) (hm : m ≤ n) : EsRow row o (manyL m) := by
  have g : ∀ {i : Nat} {e : Ent}, (manyL m)[i]? = some e → (manyL n)[i]? = some e := fun {i e} hi => by
    have hl := (List.getElem?_eq_some_iff.1 hi).1
    rw [manyL_length] at hl
    rw [manyL_get hl] at hi
    rw [manyL_get (by omega)]; exact hi
  refine ⟨fun i e hi => h.t i e (g hi), fun i e hi => h.k i e (g hi), fun i e hi => h.e i e (g hi), fun i e hi => h.c i e (g hi), fun e he => ?_⟩
  obtain ⟨i, hi, rfl⟩ := manyL_mem he
  exact h.ok _ (List.mem_of_getElem? (manyL_get (by omega)))
theorem KS.go {pk : List UInt8 → List (List UInt8)} {H0 G G' : Heap} {dp kp : Nat} {A : AD} {O : Nat → Prop} {t v : Nat} {vl : V} {es : List Ent} (S : KS pk H0 G dp kp A O t v vl es) (f : Fresh G G') : KS pk H0 G' dp kp A O t v vl es :=
  ⟨S.fresh.trans f, S.disk.fresh f, S.own, S.jd, S.fuse, S.len, S.room, S.kpo, S.kpn, S.kat.fresh f, S.log.fresh f, S.has, S.okk⟩
theorem KAt.mark {H : Heap} {p term voted dp : Nat} {v : V} {lost : Bool} (h : KAt H p term voted v dp lost) : KAt H.mark p term voted v dp lost := ⟨by rw [Heap.get_mark]; exact h.get, by rw [Heap.n_mark]; exact h.lt⟩
theorem LogC.mark {H : Heap} {v : V} {es : List Ent} {O : Nat → Prop} (h : LogC H v es O) : LogC H.mark v es O := by
  rcases h with h | ⟨b, o, c, z, row, h1, h2, h3, h4, h5, h6⟩
  · exact Or.inl h
  · exact Or.inr ⟨b, o, c, z, row, h1, by rw [Heap.get_mark]; exact h2, by rw [Heap.n_mark]; exact h3, h4, h5, h6⟩
theorem LogC.vc {H : Heap} {v : V} {es : List Ent} {O : Nat → Prop} (h : LogC H v es O) {id : Nat} {f : List V → R} : vCells id v f = f [v] := by
  rcases h with ⟨rfl, _⟩ | ⟨b, o, c, z, row, rfl, _⟩
  · rfl
  · rfl
theorem LogN.unmark {H G : Heap} {v : V} {es : List Ent} {w : Nat} (h : LogN H.mark G v es) : LogN H (G.unmark w) v es := by
  cases H; cases G; exact h
section
variable {cp : RC → CodeE} {t : Nat → Option FnE} {fuel : Nat} {H : Heap} {pk : List UInt8 → List (List UInt8)} {unpk : List (List UInt8) → Option (List UInt8)}
set_option maxHeartbeats 2000000 in
theorem long_loop (T : TCode t) (hc : HasClone t) (F : FrameOK pk unpk) (hp : t 104 = some (.nat (nPack pk))) {H0 : Heap} {dp kp N step b c z : Nat} (hN : N ≤ 300) (hN1 : 1 ≤ N) (hs1 : 1 ≤ step) (hs2 : step ≤ 80) (hcz : c = N + 1 ∨ (c = 0 ∧ z = 4)) (hfu : 1000000 < fuel) :
    ∀ (m h : Nat) (G : Heap) (A : AD) (O : Nat → Prop) (tm vo : Nat) (vl : V), N - h ≤ m → h ≤ N → At tm vo h → KS pk H0 G dp kp A O tm vo vl (manyL h) → (∀ i, h ≤ i → A.read (146 + i) = (32, 0)) → LogC G (.slice b 0 N c z) (manyL N) (With O kp) → G.get b = .cells (encEnt (manyL N)) →
    ∀ (d : Nat) (kx : Nat → KE) (r : Nat) (e : Env), m < r → pget ⟨.i0, .i0, .i5⟩ e = .ptr dp 0 → pget ⟨.i0, .i0, .i6⟩ e = .ptr kp 0 → pget ⟨.i0, .i0, .i7⟩ e = .slice b 0 N c z → pget ⟨.i0, .i1, .i0⟩ e = .int 3 step → pget ⟨.i0, .i1, .i1⟩ e = .int 3 h →
      ∀ x : R, (∀ e' G' A' O' vl', KS pk H0 G' dp kp A' O' 1 0 vl' (manyL N) → LogC G' (.slice b 0 N c z) (manyL N) (With O' kp) → pget ⟨.i0, .i0, .i5⟩ e' = .ptr dp 0 → pget ⟨.i0, .i0, .i7⟩ e' = .slice b 0 N c z → kx 1 e' G' = x) → (∀ e' G', Fresh H0 G' → pget ⟨.i0, .i0, .i4⟩ e' = .bool true → kx 0 e' G' = x) →
      evL c3l0 fuel (evP cp t fuel (d + 8)) kx r e G = x := by
  intro m
  induction m with
  | zero =>
    intro h G A O tm vo vl hm hh hat S hz hl hb d kx r e hr h5 h6 h7 h10 h11 x hT hF
    obtain rfl : h = N := by omega
    obtain ⟨r, rfl⟩ : ∃ q, r = q + 1 := ⟨r - 1, by omega⟩
    have e1 : ¬ h < h := by omega
    have e2 : nn h := by unfold nn; omega
    have e3 : h < 9223372036854775808 := by omega
    obtain ⟨_, rfl, rfl⟩ := hat.resolve_left (by omega)
    rw [evL_succ]
    simp only [go_sem, ↓op_app, reduceCtorEq, Nat.reduceAdd, Nat.reduceSub, Nat.reduceMul, Nat.reduceEqDiff, Nat.reduceLT, Nat.reduceDiv, Nat.reduceMod, Nat.reduceLeDiff, ↓reduceIte, c3l0, h5, h6, h7, h10, h11, e1, e2, e3]
    exact hT _ _ _ _ _ S hl (by simp only [go_sem, reduceCtorEq, ↓reduceIte, h5]) (by simp only [go_sem, reduceCtorEq, ↓reduceIte, h7])
  | succ m ih =>
    intro h G A O tm vo vl hm hh hat S hz hl hb d kx r e hr h5 h6 h7 h10 h11 x hT hF
    obtain ⟨r, rfl⟩ : ∃ q, r = q + 1 := ⟨r - 1, by omega⟩
    by_cases hhN : h = N
    · subst hhN
      have e1 : ¬ h < h := by omega
      have e2 : nn h := by unfold nn; omega
      have e3 : h < 9223372036854775808 := by omega
      obtain ⟨_, rfl, rfl⟩ := hat.resolve_left (by omega)
      rw [evL_succ]
      simp only [go_sem, ↓op_app, reduceCtorEq, Nat.reduceAdd, Nat.reduceSub, Nat.reduceMul, Nat.reduceEqDiff, Nat.reduceLT, Nat.reduceDiv, Nat.reduceMod, Nat.reduceLeDiff, ↓reduceIte, c3l0, h5, h6, h7, h10, h11, e1, e2, e3]
      exact hT _ _ _ _ _ S hl (by simp only [go_sem, reduceCtorEq, ↓reduceIte, h5]) (by simp only [go_sem, reduceCtorEq, ↓reduceIte, h7])
    have hlt : h < N := by omega
    obtain ⟨hlb, hbO⟩ : b < G.n ∧ ¬ With O kp b := by
      rcases hl with ⟨h1, _⟩ | ⟨b', o', c', z', row, h1, h2, h3, h4, _, _⟩
      · cases h1
      · simp only [V.slice.injEq] at h1
        obtain ⟨e1, _⟩ := h1
        subst e1
        exact ⟨h3, h4⟩
    have hw := S.disk.wf
    obtain ⟨nx, hnx⟩ : ∃ nx, nx = min (h + step) N := ⟨_, rfl⟩
    have x1 : h < nx := by omega
    have x2 : nx ≤ N := by omega
    -- the piece
    obtain ⟨va, hva, hcut⟩ : ∃ va, LogC G va (manyL nx) (With O kp) ∧ ∀ {id : Nat} {ph : Phi} {e : Env} {k : K} {H : Heap} {a y : Arg}, pgetA a e = .slice b 0 N c z → pgetA y e = .int 3 nx → evOp (.slV 4 a none (some y) none) id ph e H k = k va H := by
      have hrow : EsRow (encEnt (manyL N)) 0 (manyL nx) := (encEnt_row0 (fun e he => (manyL_okk hN).es e he |>.1)).short x2
      have hbnd : ∀ {id : Nat} {e : Env} {q : Nat} {y : Arg} {f : Nat → R}, pgetA y e = .int 3 nx → bnd id (some y) e q f = f nx := fun {id e q y f} hy => by
        rw [bnd_some, hy]
        simp only [go_sem, ↓op_app, reduceCtorEq, Nat.reduceAdd, Nat.reduceSub, Nat.reduceMul, Nat.reduceEqDiff, Nat.reduceLT, Nat.reduceDiv, Nat.reduceMod, Nat.reduceLeDiff, ↓reduceIte, show nx < 9223372036854775808 by omega]
      rcases hcz with rfl | ⟨rfl, rfl⟩
      · refine ⟨.slice b 0 nx (N + 1) 0, Or.inr ⟨b, 0, N + 1, 0, _, by rw [manyL_length], hb, hlb, hbO, hrow, Nat.zero_le _⟩, fun {id ph e k H a y} ha hy => ?_⟩
        rw [op_slV0, ha, vSliceN_slice, bnd_none, hbnd hy, if_pos (Nat.zero_le _), if_neg (by omega), if_pos (by omega), if_neg (by omega)]
        simp only [Nat.zero_mul, Nat.add_zero, Nat.sub_zero, Nat.add_sub_cancel]
      · refine ⟨.slice b 0 nx 0 4, Or.inr ⟨b, 0, 0, 4, _, by rw [manyL_length], hb, hlb, hbO, hrow, Nat.zero_le _⟩, fun {id ph e k H a y} ha hy => ?_⟩
        rw [op_slV0, ha, vSliceN_slice, bnd_none, hbnd hy]
        simp only [go_sem, ↓op_app, reduceCtorEq, Nat.reduceAdd, Nat.reduceSub, Nat.reduceMul, Nat.reduceEqDiff, Nat.reduceLT, Nat.reduceDiv, Nat.reduceMod, Nat.reduceLeDiff, ↓reduceIte, x2, Nat.sub_zero]
    have f1 : Fresh G ((G.new (.cells [.int 7 0, .int 3 0, .nils])).put G.n (.cells [.int 7 1, .int 3 0, va])) := (Fresh.new hw).put (Nat.le_refl _) (by rw [Heap.n_new]; omega)
    have g1 : ((G.new (.cells [.int 7 0, .int 3 0, .nils])).put G.n (.cells [.int 7 1, .int 3 0, va])).get G.n = .cells [.int 7 1, .int 3 0, va] := by rw [Heap.get_put (by rw [Heap.wf_new]; exact hw) (by rw [Heap.n_new]; omega), if_pos rfl]
    have n1 : G.n < ((G.new (.cells [.int 7 0, .int 3 0, .nils])).put G.n (.cells [.int 7 1, .int 3 0, va])).n := by rw [Heap.n_put, Heap.n_new]; omega
    generalize hG1 : (G.new (.cells [.int 7 0, .int 3 0, .nils])).put G.n (.cells [.int 7 1, .int 3 0, va]) = G1 at f1 g1 n1
    obtain ⟨G2, O2, A2, vl2, z2, s2, hres⟩ := save_call (cp := cp) (fuel := fuel) T hc F hp (S.go f1) (hva.fresh f1) (manyL_okk (by omega)) (manyL_may (by omega) (by omega)) hfu
    have hcnt := difW_grow S.has hz (by omega : nx ≤ 300) x1 hat.tv
    have hml := manyL_length nx
    rw [hml, hcnt] at z2 hres
    have hGO : ¬ With O kp G.n := fun hh => hh.elim (fun h => by have := S.disk.lt _ h; omega) fun h => by have := S.kat.lt; omega
    have g2 : G2.get G.n = .cells [.int 7 1, .int 3 0, va] := (s2.same _ n1 hGO).1.trans g1
    have n2 : G.n < G2.n := Nat.lt_of_lt_of_le n1 s2.n
    have hb2 : G2.get b = .cells (encEnt (manyL N)) := (s2.same b (by omega) hbO).1.trans ((f1.same b hlb).trans hb)
    have hl2 : LogC G2 (.slice b 0 N c z) (manyL N) (With O2 kp) := (hl.fresh f1).keep s2
    have hva2 : LogC G2 va (manyL nx) (With O2 kp) := (hva.fresh f1).keep s2
    have hi := fun {id : Nat} {k : R} => is1_of hva.at_.one (id := id) (k := k)
    have hvc := fun {id : Nat} {f : List V → R} => hva.vc (id := id) (f := f)
    have w2 := s2.wf
    have z2' := fun {k : K} => z2 d k
    have e1 : nn h := by unfold nn; omega
    have e2 : nn N := by unfold nn; omega
    have e3 : N < 9223372036854775808 := by omega
    have e4 : nn (h + step) := by unfold nn; omega
    have e5 : (h + step) % 18446744073709551616 = h + step := by omega
    have e6 : G.n < G.n + 1 := by omega
    have e7 : (nx + (18446744073709551616 - h)) % 18446744073709551616 = nx - h := by omega
    have e8 : nn (nx - h) := by unfold nn; omega
    have e9 : nn 59 := by unfold nn; omega
    by_cases h59 : 59 < nx - h
    · have h60 : 60 < nx - h + 1 := by omega
      rw [if_pos h60] at z2'
      obtain ⟨_, S2, _⟩ := hres.resolve_right (fun q => q.1 h60)
      obtain ⟨G3, vh, z3, f3, hvh⟩ := hard_call (cp := cp) (fuel := fuel) T w2 S2.kat S2.log (by rw [manyL_length]; omega) (by omega)
      have hs := fun {id : Nat} {g : Nat → R} => ((hvh.at_ (O := fun _ => False) (fun e he => (S2.okk.es e he).1) (fun b hb => hb.elim)).at_).sn (id := id) (f := g)
      rw [manyL_length] at hs
      have e10 : h < 9223372036854775808 := by omega
      have z3' := fun {k : K} => z3 (d + 5) k
      rw [evL_succ]
      simp only [go_sem, ↓op_app, reduceCtorEq, Nat.reduceAdd, Nat.reduceSub, Nat.reduceMul, Nat.reduceEqDiff, Nat.reduceDiv, Nat.reduceMod, Nat.reduceLeDiff, ↓reduceIte, c3l0, h5, h6, h7, h10, h11, hlt, e1, e2, e3, e4, e5, ← hnx, ↓hcut, hvc, hi, hw, e6, hG1, g1, z2', e7, e8, e9, h59, z3', ↓hs, e10]
      refine hF _ _ (S2.fresh.trans f3) ?_
      simp only [go_sem, ↓op_app, reduceCtorEq, Nat.reduceAdd, Nat.reduceSub, Nat.reduceMul, Nat.reduceEqDiff, Nat.reduceLT, Nat.reduceDiv, Nat.reduceMod, Nat.reduceLeDiff, ↓reduceIte]
    · have h60 : ¬ 60 < nx - h + 1 := by omega
      rw [if_neg h60] at z2'
      obtain ⟨_, S2, hB⟩ := hres.resolve_left (fun q => h60 q.1)
      obtain ⟨Gm, vh, z3, f3m, hvhm⟩ := hard_call (cp := cp) (fuel := fuel) T (H := G2.mark) (by rw [Heap.wf_mark]; exact w2) S2.kat.mark S2.log.mark (by rw [manyL_length]; omega) (by omega)
      obtain ⟨f3, hlo⟩ := f3m.unmark
      have hvh : LogN G2 (Gm.unmark G2.wlo) vh (manyL nx) := hvhm.unmark
      generalize hG3 : Gm.unmark G2.wlo = G3 at f3 hvh
      have w3 := f3.wf
      have hvh3 : LogC G3 vh (manyL nx) (fun _ => False) := hvh.at_ (fun e he => (S2.okk.es e he).1) (fun b hb => hb.elim)
      obtain ⟨G4, z4, f4⟩ := ksame_call (cp := cp) (fuel := fuel) (t1 := 1) (t2 := 1) (b1 := 0) (b2 := 0) T w3 hvh3.at_ (hva2.fresh f3).at_ (by rw [manyL_length]; omega) (by rw [manyL_length]; omega) (by omega)
      have hd : decide (1 = 1 ∧ 0 = 0 ∧ manyL nx = manyL nx) = true := by simp
      rw [hd] at z4
      have g3 : G3.get G.n = .cells [.int 7 1, .int 3 0, va] := (f3.same _ n2).trans g2
      have hnl := ih nx G4 A2 O2 1 0 vl2 (by omega) x2 (Or.inr ⟨by omega, rfl, rfl⟩) ((S2.go f3).go f4) (difW_zero hz (by omega) hB) ((hl2.fresh f3).fresh f4) (by rw [(f3.trans f4).same b (by have := s2.n; have := f1.n; omega)]; exact hb2)
      have z3' := fun {k : K} => z3 (d + 5) k
      have z4' := fun {k : K} => z4 (d + 6) k
      rw [evL_succ]
      simp only [go_sem, ↓op_app, reduceCtorEq, Nat.reduceAdd, Nat.reduceSub, Nat.reduceMul, Nat.reduceEqDiff, Nat.reduceDiv, Nat.reduceMod, Nat.reduceLeDiff, ↓reduceIte, c3l0, h5, h6, h7, h10, h11, hlt, e1, e2, e3, e4, e5, ← hnx, ↓hcut, hvc, hi, hw, e6, hG1, g1, z2', e7, e8, e9, h59, z3', hlo, hG3, g3, w3, z4']
      refine hnl d kx r _ (by omega) ?_ ?_ ?_ ?_ ?_ x hT hF
      · simp only [go_sem, reduceCtorEq, ↓reduceIte, h5]
      · simp only [go_sem, reduceCtorEq, ↓reduceIte, h6]
      · simp only [go_sem, reduceCtorEq, ↓reduceIte, h7]
      · simp only [go_sem, reduceCtorEq, ↓reduceIte, h10]
      · simp only [go_sem, reduceCtorEq, ↓reduceIte]
end
end Go.Ev
end
section
namespace Go.Ev
theorem bf_rem {id half a b : Nat} {f : Nat → R} (ha : a < half) (hb : b < half) (h0 : b ≠ 0) : evBF id (.rem half) a b f = f (a % b) := by
  show ifB (Nat.blt a half) (ifB (Nat.blt b half) (ifB (Nat.beq b 0) (no 0) (forceN (Nat.mod a b) f)) (no 0)) (no 0) = _
  rw [ifB_if, if_pos (by rw [Nat.blt_eq]; exact ha), ifB_if, if_pos (by rw [Nat.blt_eq]; exact hb), ifB_if, if_neg (by rw [nbeq]; exact h0), forceN_eq]
  rfl
section
variable {cp : RC → CodeE} {t : Nat → Option FnE} {fuel : Nat} {H : Heap} {pk : List UInt8 → List (List UInt8)} {unpk : List (List UInt8) → Option (List UInt8)}
set_option maxHeartbeats 2000000 in
theorem keepLong_call (T : TCode t) (hc : HasClone t) (F : FrameOK pk unpk) (hp : t 104 = some (.nat (nPack pk))) (hu : t 74 = some (.nat (nUnpack unpk))) (hwk : t 7 = some (.nat nWorks)) (hw : H.wf) {n q : Nat} (hn : n < 65536) (hq : q < 256) (hfu : 1000000 < fuel)
    (d : Nat) (k : K) (x : R) (hx : ∀ H', Fresh H H' → k (.bool true) H' = x) : callP (evP cp t fuel (d + 10)) (.func 6 []) [.int 5 n, .int 4 q] H k = x := by
  have hwc : ∀ {d : Nat} {k : K} {G : Heap}, callP (evP cp t fuel (d + 1)) (.func 14 []) [] G k = k (.bool true) G := fun {d k G} => by
    rw [call_nat hwk rfl rfl]
    rfl
  obtain ⟨G1, dp, kp, A, O, vl, z1, S1, hz1⟩ := made_call (cp := cp) (fuel := fuel) T hc F hp hu hw hfu
  have N1 : 1 ≤ 1 + n % 300 := by omega
  have N2 : 1 + n % 300 ≤ 300 := by omega
  have P1 : 1 ≤ 1 + q % 80 := by omega
  have P2 : 1 + q % 80 ≤ 80 := by omega
  have r1 : ∀ {id : Nat} {f : Nat → R}, evBF id (.rem 65536) n 300 f = f (n % 300) := fun {id f} => bf_rem hn (by omega) (by omega)
  have r2 : ∀ {id : Nat} {f : Nat → R}, evBF id (.rem 256) q 80 f = f (q % 80) := fun {id f} => bf_rem hq (by omega) (by omega)
  have e1 : n % 300 % 18446744073709551616 = n % 300 := by omega
  have e2 : (1 + n % 300) % 18446744073709551616 = 1 + n % 300 := by omega
  have e3 : q % 80 % 18446744073709551616 = q % 80 := by omega
  have e4 : (1 + q % 80) % 18446744073709551616 = 1 + q % 80 := by omega
  generalize hNe : 1 + n % 300 = N at N1 N2 e2
  generalize hPe : 1 + q % 80 = P at P1 P2 e4
  obtain ⟨G2, va, z2, f2, hva⟩ := many_call (cp := cp) (fuel := fuel) T S1.disk.wf N1 N2 (by omega)
  have S2 := S1.go f2
  obtain ⟨p1, p2, ⟨p3, p4⟩ | ⟨b, c, s, rfl, p4, p5, p6, p7, p8⟩⟩ := hva
  · omega
  have hlk : ∀ b', With O kp b' → b' < G1.n := fun b' hb' => hb'.elim (fun h => S1.disk.lt b' h) fun h => by rw [h]; exact S1.kat.lt
  have hall : LogC G2 (.slice b 0 N c s) (manyL N) (With O kp) := Or.inr ⟨b, 0, c, s, _, by rw [manyL_length], p6, p8, fun hb' => by have := hlk b hb'; omega, encEnt_row0 (fun e he => ((manyL_okk N2).es e he).1), Nat.zero_le _⟩
  have z1' := fun {k : K} => z1 d k
  have z2' := fun {k : K} => z2 (d + 8) k
  rw [call_entry T.k3 rfl rfl]
  simp only [go_sem, ↓op_app, reduceCtorEq, Nat.reduceAdd, Nat.reduceSub, Nat.reduceMul, Nat.reduceEqDiff, Nat.reduceLT, Nat.reduceDiv, Nat.reduceMod, Nat.reduceLeDiff, ↓reduceIte, c3, c3r1, hwc]
  simp only [go_sem, ↓op_app, reduceCtorEq, Nat.reduceAdd, Nat.reduceSub, Nat.reduceMul, Nat.reduceEqDiff, Nat.reduceLT, Nat.reduceDiv, Nat.reduceMod, Nat.reduceLeDiff, ↓reduceIte, c3r2, c3r3, c3r4, c3r5, c3r6, c3r7, z1', r1, e1, hNe, e2, z2', r2, e3, hPe, e4]
  refine long_loop (c := c) (z := s) (N := N) (step := P) T hc F hp N2 N1 P1 P2 p5 hfu N 0 G2 A O 0 18446744073709551615 vl (by omega) (by omega) (Or.inl ⟨rfl, rfl, rfl⟩) S2 (fun i _ => hz1 i) hall p6 (d + 1) _ fuel _ (by omega) ?_ ?_ ?_ ?_ ?_ _ (fun e' G3 A3 O3 vl3 S3 hl3 q5 q7 => ?_) (fun e' G3 f3 q4 => ?_)
  · simp only [go_sem, reduceCtorEq, ↓reduceIte]
  · simp only [go_sem, reduceCtorEq, ↓reduceIte]
  · simp only [go_sem, reduceCtorEq, ↓reduceIte]
  · simp only [go_sem, reduceCtorEq, ↓reduceIte]
  · simp only [go_sem, reduceCtorEq, ↓reduceIte]
  · obtain ⟨a3, n3, u3, J3⟩ := S3.jd
    obtain ⟨j1, j2, j3, j4, j5, j6⟩ := J3.recovered S3.fuse
    have hK : HasK (A3.recover n3 u3).1 1 0 (manyL N) := ⟨by rw [j4]; exact S3.has.lo, by rw [j4]; exact S3.has.hi, by rw [AD.read, j6]; exact S3.has.head, fun i e he => by rw [AD.read, j6]; exact S3.has.ents i e he⟩
    obtain ⟨G4, O4, kq, vq, z4, s4, D4, kat4, hq4, _, _⟩ := open_call (cp := cp) (fuel := fuel) T hc F hu S3.disk J3.rec_ j1 j2.off hK (manyL_okk N2) (manyL_may N1 N2) hfu
    obtain ⟨f4, _⟩ := S3.fresh.own s4 S3.own
    have hl4 : LogC G4 (.slice b 0 N c s) (manyL N) O4 := (hl3.weak fun b' _ h => Or.inl h).keep s4
    obtain ⟨G5, vh, z5, f5, hvh⟩ := hard_call (cp := cp) (fuel := fuel) T s4.wf kat4 hq4 (by rw [manyL_length]; omega) (by omega)
    have hvh5 : LogC G5 vh (manyL N) (fun _ => False) := hvh.at_ (fun e he => ((manyL_okk N2).es e he).1) (fun b hb => hb.elim)
    have z6 := fun {k : K} => lsame_call (cp := cp) (fuel := fuel) T f5.wf hvh5.at_ (hl4.fresh f5).at_ (by rw [manyL_length]; omega) (by rw [manyL_length]; omega) (by omega) (d + 8) k
    rw [decide_eq_true rfl] at z6
    have z4' := fun {k : K} => z4 (d + 1) k
    have z5' := fun {k : K} => z5 (d + 6) k
    simp only [go_sem, ↓op_app, reduceCtorEq, Nat.reduceAdd, Nat.reduceSub, Nat.reduceMul, Nat.reduceEqDiff, Nat.reduceLT, Nat.reduceDiv, Nat.reduceMod, Nat.reduceLeDiff, ↓reduceIte]
    simp only [go_sem, ↓op_app, reduceCtorEq, Nat.reduceAdd, Nat.reduceSub, Nat.reduceMul, Nat.reduceEqDiff, Nat.reduceLT, Nat.reduceDiv, Nat.reduceMod, Nat.reduceLeDiff, ↓reduceIte, c3r8, c3r9, c3r10, q5, q7, z4', z5', z6]
    exact hx _ (f4.trans f5)
  · simp only [go_sem, reduceCtorEq, ↓reduceIte, q4]
    exact hx _ f3
end
end Go.Ev
end
section
namespace Go.Ev
open Go.ChangeShapes Go.WideShapes Go.RowKit
theorem vOf_int {N : Nat} {k : IntKind} {n : Int} (h : (Lit.int k n).wf = true) : vOf N (.int k n) = .int (kOf k) (n % (2 ^ k.bits : Nat)).toNat := by
  have hw : k.wrap n = n := by
    unfold Lit.wf at h
    simp only [Bool.and_eq_true, decide_eq_true_eq] at h
    obtain ⟨h1, h2⟩ := h
    cases k <;> simp [IntKind.min, IntKind.max, IntKind.bits, IntKind.signed] at h1 h2 <;> simp [IntKind.wrap, IntKind.bits, IntKind.signed] <;> omega
  unfold vOf constV1
  simp [hw]
theorem u8_lt {n : Int} : (n % (2 ^ IntKind.u8.bits : Nat)).toNat < 256 := by
  have h1 : (0 : Int) ≤ n % (2 ^ IntKind.u8.bits : Nat) := Int.emod_nonneg _ (by simp [IntKind.bits])
  have h2 : n % (2 ^ IntKind.u8.bits : Nat) < (2 ^ IntKind.u8.bits : Nat) := Int.emod_lt_of_pos _ (by simp [IntKind.bits])
  simp only [IntKind.bits] at h1 h2 ⊢
  omega
theorem u16_lt {n : Int} : (n % (2 ^ IntKind.u16.bits : Nat)).toNat < 65536 := by
  have h1 : (0 : Int) ≤ n % (2 ^ IntKind.u16.bits : Nat) := Int.emod_nonneg _ (by simp [IntKind.bits])
  have h2 : n % (2 ^ IntKind.u16.bits : Nat) < (2 ^ IntKind.u16.bits : Nat) := Int.emod_lt_of_pos _ (by simp [IntKind.bits])
  simp only [IntKind.bits] at h1 h2 ⊢
  omega
section
variable {P : Program} {w : World}
theorem called_cps (hm : P.follows .mixedOrders = true) {t : Nat → Option FnE} (ht : TabOK P t) {fuel depth : Nat} {f : FuncId} {args : List V} {cargs : Array Value} {w : World} (ha : VRs (mu (rhoOf w) (Ev.adopt w) w) args cargs.toList)
    (h : ∀ (k : K) (x : R), (∀ H', Fresh (Ev.adopt w) H' → k (.bool true) H' = x) → callP (evP (compRC P) t fuel depth) (.func (2 * f) []) args (Ev.adopt w) k = x) :
    Calls P f cargs w fun e w' => e = .returned (.bool true) ∧ Below w.heap.size w w' := by
  obtain ⟨v, H2, h1, h2⟩ := evP_ok hm ht fuel depth (.func (2 * f) []) args (Ev.adopt w) (fun v H2 => @ite _ (v = .bool true ∧ w.heap.size + 1 ≤ H2.wlo) (Classical.propDecidable _) 1 0) (h _ 1 fun H' hF => by
    rw [if_pos]
    exact ⟨rfl, hF.lo _ (by rw [adopt_wlo]; exact Nat.le_refl _) (by rw [adopt_n]; exact Nat.le_refl _)⟩)
  have h3 : v = .bool true ∧ w.heap.size + 1 ≤ H2.wlo := by
    by_cases hh : v = .bool true ∧ w.heap.size + 1 ≤ H2.wlo
    · exact hh
    · simp only [if_neg hh] at h2
      exact absurd h2 (by decide)
  obtain ⟨rfl, hlo⟩ := h3
  have h4 := h1.2 f [] rfl
  rw [List.append_nil] at h4
  obtain ⟨_, h5⟩ := h4 0 w (rhoOf w) w cargs (PR.adopt w) ha
  refine CallsIn.calls (h5.mono fun e w' he => ?_) fun k => by simp [Fence.room]
  obtain ⟨cv, rfl, rho', h6, h7, h8⟩ := he
  simp only [VR] at h6
  subst h6
  refine ⟨rfl, h7.below.os, h7.below.tape, h7.below.output, h7.below.size, fun k hk => h8.fr k hk fun b hb => ?_⟩
  have := (PR.adopt (P := P) w).lt b k hb
  rw [adopt_n] at this
  omega
end
end Go.Ev
end
