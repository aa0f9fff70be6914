/- LITERALS OF STRUCTS, ARRAYS AND SLICES; make. -/
import Derived.Test.YtaodjhgfhdncgaaGreatDoorEv13
import Derived.Laws.Tables
set_option linter.unusedSectionVars false
set_option linter.unusedVariables false
set_option linter.unusedSimpArgs false
namespace Go.Ev
open Go.RowKit

section
variable {P : Program} {nt : Nat} {o : Oper} {id : Nat} {ph : Phi} {e : Env} {H : Heap} {k : K}

theorem fold_set : ∀ (l : List Value) (j : Nat) (off : Nat) (cells : Array Value), off + j + l.length ≤ cells.size → ((l.zipIdx j).foldl (fun cs (p : Value × Nat) => cs.setIfInBounds (off + p.2) p.1) cells).size = cells.size ∧
    ∀ i : Nat, ((l.zipIdx j).foldl (fun cs (p : Value × Nat) => cs.setIfInBounds (off + p.2) p.1) cells)[i]? = if off + j ≤ i ∧ i < off + j + l.length then l[i - (off + j)]? else cells[i]?
  | [], j, off, cells, _ => ⟨rfl, fun i => by rw [if_neg (by simp)]; rfl⟩
  | v :: l, j, off, cells, h => by
    simp only [List.length_cons] at h
    obtain ⟨h1, h2⟩ := fold_set l (j + 1) off (cells.setIfInBounds (off + j) v) (by simp; omega)
    refine ⟨by simpa [List.zipIdx_cons] using h1, fun i => ?_⟩
    simp only [List.zipIdx_cons, List.foldl_cons, List.length_cons]
    rw [h2]
    by_cases hi : i = off + j
    · subst hi
      rw [if_neg (by omega), if_pos (by omega)]
      have hlt : off + j < cells.size := by omega
      simp [hlt]
    · by_cases hi2 : off + (j + 1) ≤ i ∧ i < off + (j + 1) + l.length
      · rw [if_pos hi2, if_pos (by omega), show i - (off + j) = (i - (off + (j + 1))) + 1 by omega]
        simp
      · rw [if_neg hi2, if_neg (by omega), Array.getElem?_setIfInBounds_ne (fun e => hi e.symm)]

theorem vrs_splice {m : M} {z l : List V} {cs cs' : Array Value} {vs : List Value} {off : Nat} (hz : VRs m z cs.toList) (hl : VRs m l vs) (hle : off + l.length ≤ z.length) (hsz : cs'.size = cs.size)
    (hg : ∀ i : Nat, cs'[i]? = if off + 0 ≤ i ∧ i < off + 0 + vs.length then vs[i - (off + 0)]? else cs[i]?) : VRs m (z.take off ++ (l ++ z.drop (off + l.length))) cs'.toList := by
  have e1 := hz.length
  have e2 := hl.length
  simp at e1
  refine VRs.of_get (by simp; omega) fun i v c h1 h2 => ?_
  rw [Array.getElem?_toList, hg] at h2
  by_cases hi1 : i < off
  · rw [List.getElem?_append_left (by simp; omega), List.getElem?_take, if_pos hi1] at h1
    rw [if_neg (by omega)] at h2
    obtain ⟨c', h3, h4⟩ := hz.get h1
    rw [Array.getElem?_toList, h2] at h3
    cases h3
    exact h4
  · rw [List.getElem?_append_right (by simp; omega), show (z.take off).length = off by simp; omega] at h1
    by_cases hi2 : i - off < l.length
    · rw [List.getElem?_append_left hi2] at h1
      rw [if_pos (by omega)] at h2
      obtain ⟨c', h3, h4⟩ := hl.get h1
      simp only [Nat.add_zero] at h2
      rw [h2] at h3
      cases h3
      exact h4
    · rw [List.getElem?_append_right (by omega), List.getElem?_drop, show off + l.length + (i - off - l.length) = i by omega] at h1
      rw [if_neg (by omega)] at h2
      obtain ⟨c', h3, h4⟩ := hz.get h1
      rw [Array.getElem?_toList, h2] at h3
      cases h3
      exact h4

/-- What the parts of a literal are. -/
inductive PartsOK (m : M) (e : Env) (place : Nat → Option (Nat × Nat)) : List (Nat × Nat × Arg) → List (Nat × Value) → Prop
  | nil : PartsOK m e place [] []
  | cons {off size i : Nat} {a : Arg} {v : Value} {l r} (h1 : place i = some (off, size)) (h2 : VR m (pgetA a e) v) (h : PartsOK m e place l r) : PartsOK m e place ((off, size, a) :: l) ((i, v) :: r)

theorem fillL_ok : ∀ {parts : List (Nat × Nat × Arg)} {z : List V} {f : List V → R}, fillL id e parts z f = 1 → ∃ z', f z' = 1 ∧ z'.length = z.length ∧ ∀ (m : M) (place : Nat → Option (Nat × Nat)) (cp : List (Nat × Value)) (cs : Array Value), PartsOK m e place parts cp → VRs m z cs.toList →
    ∃ cs', Instr.fill place cs cp = some cs' ∧ VRs m z' cs'.toList
  | [], z, f, h => ⟨z, h, rfl, fun m place cp cs hp hz => by cases hp; exact ⟨cs, rfl, hz⟩⟩
  | (off, size, a) :: parts, z, f, h => by
    have h' : getA a e (fun v => vCells id v fun l => ifB (Nat.beq (lenL l) size) (setAt id l z off fun z' => fillL id e parts z' f) (no _)) = 1 := h
    rw [getA_eq] at h'
    obtain ⟨l, h1, h2⟩ := vCells_pure h'
    obtain ⟨h3, h4⟩ := ifB_no h1
    have hlen : lenL l = size := beq_of h3
    rw [lenL_eq] at hlen
    obtain ⟨h5, h6⟩ := setAt_ok h4
    obtain ⟨z', h7, h70, h8⟩ := fillL_ok h6
    refine ⟨z', h7, h70.trans (by simp; omega), fun m place cp cs hp hz => ?_⟩
    cases hp with
    | cons p1 p2 p3 =>
      rename_i i v r
      have hvr := h2 m v p2
      have hl2 := hvr.length
      have hz2 := hz.length
      simp at hl2 hz2
      obtain ⟨g1, g2⟩ := fold_set v.cells.toList 0 off cs (by simp; omega)
      obtain ⟨cs', q1, q2⟩ := h8 m place r _ p3 (vrs_splice hz hvr h5 g1 (by simpa using g2))
      refine ⟨cs', ?_, q2⟩
      simp only [Instr.fill, p1]
      rw [if_neg (by simp; omega)]
      rw [← q1]
      congr 1
      rw [← Array.foldl_toList, Array.toList_zipIdx]

theorem compParts_ok {m : M} {ac : Act} : ∀ {l : List (Nat × Operand)} {r : List (Nat × Arg)}, compParts nt l = some r → (∀ p ∈ l, ∀ ar, compArg nt p.2 = some ar → VR m (pgetA ar e) (ac.eval p.2)) →
    r.length = l.length ∧ ∀ i (h1 : i < l.length) (h2 : i < r.length), r[i].1 = l[i].1 ∧ VR m (pgetA r[i].2 e) (ac.eval l[i].2)
  | [], r, h, _ => by simp only [compParts, Option.some.injEq] at h; subst h; exact ⟨rfl, fun i h1 => absurd h1 (by simp)⟩
  | (j, x) :: l, r, h, ho => by
    simp only [compParts] at h
    split at h
    · rename_i a r' h1 h2
      cases h
      obtain ⟨h3, h4⟩ := compParts_ok h2 fun p hp => ho p (List.mem_cons_of_mem _ hp)
      refine ⟨by simp [h3], fun i hi1 hi2 => ?_⟩
      cases i with
      | zero => exact ⟨rfl, ho (j, x) (List.mem_cons_self ..) a h1⟩
      | succ i => simpa using h4 i (by simpa using hi1) (by simpa using hi2)
    · cases h

theorem parts_elem {m : M} {ac : Act} {s : Nat} : ∀ {l : List (Nat × Operand)} {r : List (Nat × Arg)}, compParts nt l = some r → (∀ p ∈ l, ∀ ar, compArg nt p.2 = some ar → VR m (pgetA ar e) (ac.eval p.2)) →
    PartsOK m e (fun i => some (i * s, s)) (elemParts s r) (l.map fun p => (p.1, ac.eval p.2))
  | [], r, h, _ => by simp only [compParts, Option.some.injEq] at h; subst h; exact .nil
  | (j, x) :: l, r, h, ho => by
    simp only [compParts] at h
    split at h
    · rename_i a r' h1 h2
      cases h
      exact .cons rfl (ho (j, x) (List.mem_cons_self ..) a h1) (parts_elem h2 fun p hp => ho p (List.mem_cons_of_mem _ hp))
    · cases h
theorem parts_field {m : M} {ac : Act} {pl : List (Nat × Nat)} : ∀ {l : List (Nat × Operand)} {r : List (Nat × Arg)} {q : List (Nat × Nat × Arg)}, compParts nt l = some r → fieldParts pl r = some q → (∀ p ∈ l, ∀ ar, compArg nt p.2 = some ar → VR m (pgetA ar e) (ac.eval p.2)) →
    PartsOK m e (pl.toArray[·]?) q (l.map fun p => (p.1, ac.eval p.2))
  | [], r, q, h, hq, _ => by simp only [compParts, Option.some.injEq] at h; subst h; simp only [fieldParts, Option.some.injEq] at hq; subst hq; exact .nil
  | (j, x) :: l, r, q, h, hq, ho => by
    simp only [compParts] at h
    split at h
    · rename_i a r' h1 h2
      cases h
      simp only [fieldParts] at hq
      split at hq
      · rename_i p q' h3 h4
        cases hq
        exact .cons (by simpa using h3) (ho (j, x) (List.mem_cons_self ..) a h1) (parts_field h2 h4 fun p hp => ho p (List.mem_cons_of_mem _ hp))
      · cases hq
    · cases h

theorem s_build {t : TypeId} {parts : Array (Nat × Operand)} (hop : o.op = .build t parts) (h : evOp (compOp P nt o) id ph e H k = 1) : Good P nt o e H k := by
  simp only [compOp, hop] at h
  have hnd : ∀ c, o.op ≠ .defer c := by simp [hop]
  have hmem : ∀ p ∈ parts.toList, p.2 ∈ o.op.operands := fun p hp => by simp [hop, Op.operands]; exact ⟨p.1, by simpa using hp⟩
  have key : ∀ (z : List V) (q : List (Nat × Nat × Arg)) (place : Nat → Option (Nat × Nat)), zeroT P t = some z → (∀ (m : M) (ac : Act), OR m nt e ac o → PartsOK m e place q (parts.toList.map fun p => (p.1, ac.eval p.2))) →
      (∀ (i : TypeInfo) (zv : Value), P.info? t = some i → i.zero = some zv → ∀ l, P.built t l = Instr.fill place zv.cells l) → eBuild z q id ph e H k = 1 → Good P nt o e H k := by
    intro z q place hz hpo hb h'
    obtain ⟨z', h1, _, h2⟩ := fillL_ok h'
    obtain ⟨i, zv, hi, hzv, hvr, _⟩ := zeroT_ok hz
    refine ⟨_, _, OpS.of_pure hnd fun m w ac ho => ?_, h1⟩
    obtain ⟨cs', h3, h4⟩ := h2 m place _ _ (hpo m ac ho) (hvr m)
    refine ⟨.agg cs', ?_, by simp only [VR]; exact ⟨cs', rfl, h4⟩⟩
    have := run_build (P := P) w t (parts.map fun (i, x) => (i, ac.eval x)) cs' (by rw [hb i zv hi hzv]; simpa using h3)
    simp [execOp, hop, this]
  split at h
  · rename_i z ps fs hz hps hu
    split at h
    · rename_i pl hpl
      split at h
      · rename_i q hq
        exact key z q (pl.toArray[·]?) hz (fun m ac ho => parts_field hps hq fun p hp => ho p.2 (hmem p hp)) (fun i zv hi hzv l => by
          unfold placesT at hpl
          simp [Program.built, hi, hu, hzv, hpl]) h
      · exact (no_ne h).elim
    · exact (no_ne h).elim
  · rename_i z ps n el hz hps hu
    split at h
    · rename_i s hs
      simp only [szT, Option.map_eq_some_iff] at hs
      obtain ⟨ti, hti, hsz⟩ := hs
      exact key z _ (fun i => some (i * s, s)) hz (fun m ac ho => parts_elem hps fun p hp => ho p.2 (hmem p hp)) (fun i zv hi hzv l => by simp [Program.built, hi, hu, hzv, hti, hsz]) h
    · exact (no_ne h).elim
  · exact (no_ne h).elim

theorem replL_get {z : List V} : ∀ {c i : Nat} {v : V}, (replL c z)[i]? = some v → z[i % z.length]? = some v ∧ i < c * z.length
  | 0, i, v, h => by simp [replL] at h
  | c + 1, i, v, h => by
    simp only [replL] at h
    by_cases hi : i < z.length
    · rw [List.getElem?_append_left hi] at h
      exact ⟨by rw [Nat.mod_eq_of_lt hi]; exact h, by rw [Nat.succ_mul]; omega⟩
    · rw [List.getElem?_append_right (by omega)] at h
      obtain ⟨h1, h2⟩ := replL_get h
      refine ⟨?_, by rw [Nat.succ_mul]; omega⟩
      rw [Nat.mod_eq_sub_mod (by omega)]
      exact h1
theorem replL_length {z : List V} : ∀ c : Nat, (replL c z).length = c * z.length
  | 0 => by simp [replL]
  | c + 1 => by simp [replL, replL_length c, Nat.succ_mul]; omega
theorem made_vrs {m : M} {z : List V} {zc : Array Value} (hz : VRs m z zc.toList) (c : Nat) : VRs m (replL c z) (madeCells zc (c * z.length)).toList := by
  have hl := hz.length
  simp at hl
  refine VRs.of_get (by simp [replL_length, size_madeCells]) fun i v cv h1 h2 => ?_
  obtain ⟨h3, h4⟩ := replL_get h1
  obtain ⟨c', h5, h6⟩ := hz.get h3
  rw [Array.getElem?_toList] at h2 h5
  have hlt : i % z.length < zc.size := by
    rcases Nat.lt_or_ge (i % z.length) zc.size with h | h
    · exact h
    · simp [Array.getElem?_eq_none h] at h5
  have h7 : (madeCells zc (c * z.length))[i]? = some (zc[i % zc.size]!) := by
    simp [madeCells, h4]
  rw [h7] at h2
  cases h2
  rw [hl, getElem!_pos zc (i % z.length) hlt]
  rw [Array.getElem?_eq_getElem hlt] at h5
  cases h5
  exact h6

theorem s_buildSlice {t : TypeId} {len : Nat} {parts : Array (Nat × Operand)} (hop : o.op = .buildSlice t len parts) (h : evOp (compOp P nt o) id ph e H k = 1) : Good P nt o e H k := by
  simp only [compOp, hop] at h
  have hnd : ∀ c, o.op ≠ .defer c := by simp [hop]
  have hmem : ∀ p ∈ parts.toList, p.2 ∈ o.op.operands := fun p hp => by simp [hop, Op.operands]; exact ⟨p.1, by simpa using hp⟩
  split at h
  · rename_i ps el hps hu
    split at h
    · rename_i s z hs hz
      split at h
      · rename_i hc
        simp only [Bool.and_eq_true, beq_iff_eq, decide_eq_true_eq] at hc
        obtain ⟨hc1, hc2⟩ := hc
        have h' : eBslice (isU8 P el && decide (0 < len)) len (replL len z) (elemParts s ps) id ph e H k = 1 := h
        unfold eBslice at h'
        obtain ⟨z', h1, hzl, h2⟩ := fillL_ok h'
        obtain ⟨i, zv, hi, hzv, hvr, hone⟩ := zeroT_ok hz
        simp only [szT, Option.map_eq_some_iff] at hs
        obtain ⟨ti, hti, hsz⟩ := hs
        rw [hi] at hti
        cases hti
        have hrun : ∀ (w : World) (cs' : Array Value) (ac : Act), Instr.fill (fun i => some (i * s, s)) (madeCells zv.cells (len * s)) (parts.toList.map fun p => (p.1, ac.eval p.2)) = some cs' →
            (execOp ac.eval o).run P w = .ok (.value (.slice (some ⟨w.heap.size, 0, none⟩) len len)) (w.alloc (.cells cs' el)) := by
          intro w cs' ac hf
          have hsz' : (sizeOf el).run P w = .ok s w := by simp [sizeOf, typeInfo, hi, hsz]
          have hzr : (zeroValue el).run P w = .ok zv w := by simp [zeroValue, typeInfo, hi, hzv]
          have hbig : ¬ (2 ^ 24 < len * s) := by omega
          by_cases h0 : len * s = 0
          · have hm0 : madeCells zv.cells (len * s) = #[] := by rw [h0]; simp [madeCells, Array.range_zero']
            rw [hm0] at hf
            simp [execOp, hop, Instr.buildSlice, run_underlying hu, hsz', h0, hf, newRow, Array.range_zero']
          · have hf' : Instr.fill (fun i => some (i * s, s)) ((Array.range (len * s)).map (fun x => zv.cells[x % zv.cells.size]!)) (parts.toList.map fun p => (p.1, ac.eval p.2)) = some cs' := hf
            simp [execOp, hop, Instr.buildSlice, run_underlying hu, hsz', hzr, hbig, h0, hf', newRow]
        have fin : ∀ (bl : Blk) (H' : Heap), NewTo H bl H' → k (.slice H.n 0 len (Nat.succ len) 0) H' = 1 → (∀ m, VRs m z' [] → False) ∨ True → (∀ (m : M) (cs' : Array Value), VRs m z' cs'.toList → rowOf bl = some z' ∧ (∀ ln n, bl = .bytes ln n → n < 256 ^ ln) ∧ ∀ v ∈ z', v.one = true) → Good P nt o e H k := by
          intro bl H' hN hk _ hrow
          refine ⟨_, _, OpS.of_run hnd fun base w0 rho w a hp ho => ?_, hk⟩
          have hmv := made_vrs (hvr (mu rho H w)) len
          rw [hc2] at hmv
          obtain ⟨cs', h3, h4⟩ := h2 (mu rho H w) (fun i => some (i * s, s)) _ _ (parts_elem hps fun p hp' => ho p.2 (hmem p hp')) hmv
          obtain ⟨r1, r2, r3⟩ := hrow _ cs' h4
          obtain ⟨rho', p1, p2, p3⟩ := hp.fresh (w' := w.alloc (.cells cs' el)) (t := el) hN r1 r2 (RowR.exact h4 r3) ⟨rfl, rfl, rfl⟩ rfl
          exact ⟨_, _, hrun w cs' a h3, rho', by simp only [VR]; exact ⟨_, _, _, rfl, p3, Nat.le_refl _, ⟨fun q hq => by injection hq, fun h => absurd h (by omega)⟩, Or.inl rfl⟩, p1, p2⟩
        rcases ifB_or h1 with ⟨h3, h4⟩ | ⟨h3, h4⟩
        · obtain ⟨n, h5, h6, h7⟩ := packB_ok h4
          obtain ⟨H', h8, h9⟩ := hNew_ok h5
          refine fin _ H' h9 h8 (Or.inr trivial) fun m cs' hm => ?_
          obtain ⟨g1, g2⟩ := h7 hm.small
          exact ⟨by simp only [rowOf]; rw [← g1], fun ln n' e => by cases e; exact g2, fun v hv => by obtain ⟨x, rfl⟩ := h6 v hv; rfl⟩
        · obtain ⟨h5, h6⟩ := allOne_ok h4
          obtain ⟨H', h8, h9⟩ := hNew_ok h6
          exact fin _ H' h9 h8 (Or.inr trivial) fun m cs' hm => ⟨rfl, fun ln n' e => (by cases e), h5⟩
      · exact (no_ne h).elim
    · exact (no_ne h).elim
  · exact (no_ne h).elim

theorem s_makeSlice {t : TypeId} {l c : Operand} (hop : o.op = .makeSlice t l c) (h : evOp (compOp P nt o) id ph e H k = 1) : Good P nt o e H k := by
  simp only [compOp, hop] at h
  have hnd : ∀ c, o.op ≠ .defer c := by simp [hop]
  have mem : l ∈ o.op.operands ∧ c ∈ o.op.operands := by simp [hop, Op.operands]
  split at h
  · rename_i l' c' el hl hc hu
    split at h
    · rename_i z s i hz hs hi
      split at h
      · rename_i hcond
        simp only [Bool.and_eq_true, beq_iff_eq, decide_eq_true_eq] at hcond
        obtain ⟨⟨hzs, hs0⟩, hby⟩ := hcond
        have h' : eMkSlice (z8 z && s == 1) z l' c' id ph e H k = 1 := h
        unfold eMkSlice at h'
        rw [getA_eq] at h'
        obtain ⟨kl, ln, hln, h1⟩ := vInt_ok h'
        rw [getA_eq] at h1
        obtain ⟨kc, cn, hcn, h2⟩ := vInt_ok h1
        obtain ⟨h3, h4⟩ := ifB_no h2
        obtain ⟨h5, h6⟩ := ifB_no h4
        obtain ⟨h7, h8⟩ := ifB_no h6
        obtain ⟨h9, h10⟩ := ifB_no h8
        have hle := ble_of h7
        have hcs := ble_of h9
        obtain ⟨i', zv, hi', hzv, hvr, hone⟩ := zeroT_ok hz
        rw [hi] at hi'
        cases hi'
        have hsz : i.size = s := by simpa [szT, hi] using hs
        have fin : ∀ (bl : Blk) (H' : Heap), NewTo H bl H' → k (.slice H.n 0 ln (Nat.succ cn) 0) H' = 1 → rowOf bl = some (replL cn z) → (∀ ln n, bl = .bytes ln n → n < 256 ^ ln) → (∀ v ∈ replL cn z, v.one = true) → Good P nt o e H k := by
          intro bl H' hN hk r1 r2 r3
          refine ⟨_, _, OpS.of_run hnd fun base w0 rho w a hp ho => ?_, hk⟩
          have vl := ho l mem.1 l' hl
          have vc := ho c mem.2 c' hc
          rw [hln] at vl
          rw [hcn] at vc
          simp only [VR] at vl vc
          have hmv := made_vrs (hvr (mu rho H w)) cn
          rw [hzs] at hmv
          obtain ⟨rho', p1, p2, p3⟩ := hp.fresh (w' := w.alloc (.cells (madeCells zv.cells (cn * s)) el)) (t := el) hN r1 r2 (RowR.exact hmv r3) ⟨rfl, rfl, rfl⟩ rfl
          refine ⟨.slice (some ⟨w.heap.size, 0, none⟩) ln cn, w.alloc (.cells (madeCells zv.cells (cn * s)) el), ?_, rho', by simp only [VR]; exact ⟨_, _, _, rfl, p3, hle, ⟨fun q hq => by injection hq, fun h => absurd h (by omega)⟩, Or.inl rfl⟩, p1, p2⟩
          have hm := run_make (P := P) w t el i zv hu hi hzv (kKind kl) (kKind kc) (ln : Int) (cn : Int) (by omega) (by omega) (by
            have : i.bytes * cn ≤ 65536 * 16777216 := Nat.mul_le_mul hby hcs
            have h2 : ((i.bytes * cn : Nat) : Int) ≤ 281474976710656 := by omega
            simpa using h2) (by omega)
          rw [toI_64 (ble_of h3) vl.2.2 (by omega) vl.2.1] at vl
          rw [toI_64 (ble_of h5) vc.2.2 (by omega) vc.2.1] at vc
          simp only [Int.toNat_natCast, hsz] at hm
          simp [execOp, hop, vl.1, vc.1, hm]
        rcases ifB_or h10 with ⟨h11, h12⟩ | ⟨h11, h12⟩
        · obtain ⟨H', h13, h14⟩ := hNew_ok h12
          rw [forceN_eq] at h13
          simp only [Bool.and_eq_true, beq_iff_eq] at h11
          have hz1 : z = [.int 4 0] := by
            have := z8_ok h11.1
            rw [hzs, h11.2] at this
            exact this
          have hrep : ∀ q : Nat, (sbytes q 0).map byteV = replL q z := by
            intro q
            rw [hz1]
            induction q with
            | zero => rfl
            | succ q ih => simp only [sbytes, List.map_cons, replL, List.cons_append, List.nil_append, ← ih]; rfl
          exact fin _ H' h14 h13 (by simp only [rowOf]; rw [hrep]) (fun ln n e => by cases e; exact Nat.pow_pos (by decide)) (fun v hv => by rw [← hrep] at hv; obtain ⟨y, _, rfl⟩ := List.mem_map.1 hv; rfl)
        · rw [repL_eq] at h12
          obtain ⟨h13, h14⟩ := allOne_ok h12
          obtain ⟨H', h15, h16⟩ := hNew_ok h14
          rw [forceN_eq] at h15
          exact fin _ H' h16 h15 rfl (fun ln n e => by cases e) h13
      · exact (no_ne h).elim
    · exact (no_ne h).elim
  · exact (no_ne h).elim
end
end Go.Ev
