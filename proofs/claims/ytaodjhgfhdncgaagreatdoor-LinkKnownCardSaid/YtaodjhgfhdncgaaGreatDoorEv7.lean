/- MEMORY: what the evaluator's loads and stores mean in the model. -/
import Derived.Test.YtaodjhgfhdncgaaGreatDoorEv6
import Derived.Laws.Cells
set_option linter.unusedSectionVars false
set_option linter.unusedVariables false
set_option linter.unusedSimpArgs false
namespace Go.Ev
open Go.RowKit

theorem hGet_eq (H : Heap) (b : Nat) (k : Blk → R) : hGet H b k = k (H.get b) := by cases H; rfl
theorem bOn_ok {id : Nat} {bl : Blk} {kc : List V → R} {kb : Nat → Nat → R} (h : bOn id bl kc kb = 1) : (∃ l, bl = .cells l ∧ kc l = 1) ∨ ∃ len n, bl = .bytes len n ∧ kb len n = 1 := by
  cases bl <;> first | exact (no_ne h).elim | exact Or.inl ⟨_, rfl, h⟩ | exact Or.inr ⟨_, _, rfl, h⟩
theorem bMap_ok {id : Nat} {bl : Blk} {k : List (V × V) → R} (h : bMap id bl k = 1) : ∃ es, bl = .map es ∧ k es = 1 := by
  cases bl <;> first | exact (no_ne h).elim | exact ⟨_, rfl, h⟩
theorem bLoop_ok {bl : Blk} {k : Nat → Nat → Env → List Slot → RC → RC → R} (h : bLoop bl k = 1) : ∃ st j e ps as bo, bl = .loop st j e ps as bo ∧ k st j e ps as bo = 1 := by
  cases bl <;> first | exact (no_ne h).elim | exact ⟨_, _, _, _, _, _, rfl, h⟩

structure SetTo (H : Heap) (b : Nat) (x : Blk) (H' : Heap) : Prop where
  lt : b < H.n
  n : H'.n = H.n
  wlo : H'.wlo ≤ H.wlo
  wb : H'.wlo ≤ b
  get : H'.get b = x
  oth : ∀ j, j ≠ b → H'.get j = H.get j
theorem hSet_ok {id : Nat} {H : Heap} {b : Nat} {x : Blk} {k : Heap → R} (h : hSet id H b x k = 1) : ∃ H', k H' = 1 ∧ SetTo H b x H' := by
  cases H with
  | mk n wlo t =>
    have h' : ifB (Nat.blt b n) (HT.set x t b fun t' => ifB (Nat.ble wlo b) (k (.mk n wlo t')) (k (.mk n b t'))) (no _) = 1 := h
    obtain ⟨h1, h2⟩ := ifB_no h'
    obtain ⟨t', h3, h4, h5⟩ := HT.set_ok _ _ _ h2
    rcases ifB_or h3 with ⟨h6, h7⟩ | ⟨h6, h7⟩
    · exact ⟨_, h7, blt_of h1, rfl, Nat.le_refl _, ble_of h6, h4, h5⟩
    · have : b < wlo := by
        rcases Nat.lt_or_ge b wlo with h | h
        · exact h
        · rw [Nat.ble_eq_true_of_le h] at h6; cases h6
      exact ⟨_, h7, blt_of h1, rfl, Nat.le_of_lt this, Nat.le_refl _, h4, h5⟩
structure NewTo (H : Heap) (x : Blk) (H' : Heap) : Prop where
  n : H'.n = H.n + 1
  wlo : H'.wlo = H.wlo
  get : H'.get H.n = x
  oth : ∀ j, j ≠ H.n → H'.get j = H.get j
theorem hNew_ok {H : Heap} {x : Blk} {k : Nat → Heap → R} (h : hNew H x k = 1) : ∃ H', k H.n H' = 1 ∧ NewTo H x H' := by
  cases H with
  | mk n wlo t =>
    have h' : HT.set x t n (fun t' => forceN (Nat.succ n) fun n' => k n (.mk n' wlo t')) = 1 := h
    obtain ⟨t', h3, h4, h5⟩ := HT.set_ok _ _ _ h'
    rw [forceN_eq] at h3
    exact ⟨_, h3, rfl, rfl, h4, h5⟩

/-- A block's row of cells. -/
def rowOf : Blk → Option (List V)
  | .cells l => some l
  | .bytes len n => some ((sbytes len n).map byteV)
  | _ => none
theorem byteV_one (x : UInt8) : (byteV x).one = true := rfl
theorem toI_u8 (x : Nat) (h : x < 256) : toI .u8 x = x := by
  show IntKind.u8.wrap (x : Int) = x
  simp [IntKind.wrap, IntKind.bits, IntKind.signed]
  omega
theorem VR_byte (mu : M) (x : UInt8) : VR mu (byteV x) (.int .u8 x.toNat) := by
  have h := x.toNat_lt
  simp only [byteV, VR]
  refine ⟨?_, ?_, by omega⟩
  · show Value.int .u8 _ = Value.int .u8 (toI .u8 _)
    rw [toI_u8 _ (by omega)]
  · show _ < 2 ^ IntKind.u8.bits
    simp [IntKind.bits]; omega
theorem rowOf_alive {bl : Blk} {row : List V} (h : rowOf bl = some row) : bl.alive ∧ bl ≠ .mark := by
  cases bl <;> simp [rowOf] at h <;> exact ⟨trivial, by intro e; cases e⟩
theorem rowR_of {P : Program} {mu : M} {bl : Blk} {row : List V} {o : Obj} (h : rowOf bl = some row) (hb : BR P mu bl o) : ∃ c e fr, o = .cells c e fr ∧ RowR mu row c fr := by
  cases bl with
  | cells l => simp only [rowOf, Option.some.injEq] at h; subst h; obtain ⟨c, e, fr, h1, h2, _⟩ := hb; exact ⟨c, e, fr, h1, h2⟩
  | bytes len n =>
    simp only [rowOf, Option.some.injEq] at h
    subst h
    obtain ⟨c, e, fr, h1, ⟨_, h2⟩, h3⟩ := hb
    refine ⟨c, e, fr, h1, fun i v hi => ?_, h3⟩
    simp only [List.getElem?_map, Option.map_eq_some_iff] at hi
    obtain ⟨x, hx, rfl⟩ := hi
    exact ⟨rfl, _, h2 i x hx, VR_byte mu x⟩
  | _ => simp [rowOf] at h

section
variable {P : Program} {base : Nat} {w0 w w' : World} {rho : Nat → Option Nat} {H H' : Heap}

theorem PR.row (h : PR P base w0 rho H w) {b c : Nat} {row : List V} (hr : rho b = some c) (hrow : rowOf (H.get b) = some row) :
    ∃ cs e fr, w.heap[c]? = some (.cells cs e fr) ∧ RowR (mu rho H w) row cs fr := by
  obtain ⟨o, h1, h2⟩ := h.blk b c hr
  obtain ⟨cs, e, fr, rfl, h3⟩ := rowR_of hrow h2
  exact ⟨cs, e, fr, h1, h3⟩
/-- A row that bears no text. -/
theorem PR.nstr (h : PR P base w0 rho H w) {b c : Nat} {l : List V} (hr : rho b = some c) (hb : H.get b = .cells l) {cs : Array Value} {e : TypeId} {fr : Nat × Nat} (hw : w.heap[c]? = some (.cells cs e fr)) : ¬ (fr.1 ≤ cs.size ∧ cs.size < fr.2) := by
  obtain ⟨o, h1, h2⟩ := h.blk b c hr
  rw [hb] at h2
  obtain ⟨c', e', fr', rfl, _, h3⟩ := h2
  rw [hw] at h1
  cases h1
  exact h3
theorem PR.rho_of (h : PR P base w0 rho H w) {b c : Nat} {row : List V} (hm : (mu rho H w).b b c) (hrow : rowOf (H.get b) = some row) : rho b = some c := hm.2 (rowOf_alive hrow).1

theorem one_cell' {v : V} {c : Value} {m : M} (h : VR m v c) (ho : v.one = true) : c.oneCell' = true := by
  obtain ⟨h1, h2⟩ := h.one ho
  cases c <;> first | rfl | exact absurd rfl (h1 _) | exact absurd rfl (h2 _)

/-- A cell. -/
theorem PR.cell (h : PR P base w0 rho H w) {b c i : Nat} {row : List V} {v : V} (hr : rho b = some c) (hrow : rowOf (H.get b) = some row) (hi : row[i]? = some v) :
    ∃ cv, w.cell? ⟨c, i, none⟩ = some cv ∧ VR (mu rho H w) v cv ∧ v.one = true := by
  obtain ⟨cs, e, fr, h1, h2, h3⟩ := h.row hr hrow
  obtain ⟨h4, cv, h5, h6⟩ := h2 i v hi
  exact ⟨cv, by simp [World.cell?, h1, h5], h6, h4⟩

theorem RowR.le {mu : M} {row : List V} {cs : Array Value} {fr : Nat × Nat} (h : RowR mu row cs fr) : row.length ≤ cs.size := by
  rcases Nat.lt_or_ge cs.size row.length with hlt | hge
  · obtain ⟨_, cv, h2, _⟩ := h.1 cs.size _ (List.getElem?_eq_getElem hlt)
    simp at h2
  · exact hge
theorem RowR.vrs {mu : M} {row : List V} {cs : Array Value} {fr : Nat × Nat} (h : RowR mu row cs fr) {o n : Nat} (hn : o + n ≤ row.length) : VRs mu ((row.drop o).take n) ((cs.toList.drop o).take n) := by
  have hle := h.le
  refine VRs.of_get (by simp; omega) fun i v c h1 h2 => ?_
  rw [List.getElem?_take] at h1 h2
  split at h1
  · rename_i hi
    rw [if_pos hi] at h2
    rw [List.getElem?_drop] at h1 h2
    obtain ⟨_, cv, h3, h4⟩ := h.1 _ _ h1
    rw [Array.getElem?_toList] at h2
    rw [h3] at h2
    cases h2
    exact h4
  · cases h1

/-- So many cells, read. -/
theorem PR.cells (h : PR P base w0 rho H w) {b c o n : Nat} {row : List V} (hr : rho b = some c) (hrow : rowOf (H.get b) = some row) (hn : o + n ≤ row.length) :
    ∃ cs : List Value, (loadCells ⟨c, o, none⟩ n).run P w = .ok cs.toArray w ∧ VRs (mu rho H w) ((row.drop o).take n) cs ∧ cs.length = n := by
  obtain ⟨cs, e, fr, h1, h2⟩ := h.row hr hrow
  have hle := h2.le
  refine ⟨(cs.toList.drop o).take n, ?_, h2.vrs hn, by simp; omega⟩
  have hl : ((cs.toList.drop o).take n).length = n := by simp; omega
  have := run_loadCells_list (P := P) w ⟨c, o, none⟩ ((cs.toList.drop o).take n) (fun j v hv => by
    rw [Addr.add_lit]
    rw [List.getElem?_take] at hv
    split at hv
    · rw [List.getElem?_drop, Array.getElem?_toList] at hv
      simp [World.cell?, h1, hv]
    · cases hv)
  rwa [hl] at this

/-- Cells are written one by one. -/
theorem run_storeCells {g o : Nat} {t : TypeId} {fr : Nat × Nat} : ∀ (vs : List Value) (i : Nat) (cur : Array Value) (w : World), w.heap[g]? = some (.cells cur t fr) → o + i + vs.length ≤ cur.size → (∀ v ∈ vs, v.oneCell' = true) →
    (∀ j, j < cur.size → ¬ (fr.1 ≤ j ∧ j < fr.2)) →
    ∃ w' cur', (storeCells ⟨g, o, none⟩ vs i).run P w = .ok () w' ∧ w'.heap[g]? = some (.cells cur' t fr) ∧ cur'.size = cur.size ∧ (∀ j : Nat, cur'[j]? = if o + i ≤ j ∧ j < o + i + vs.length then vs[j - (o + i)]? else cur[j]?) ∧
      (∀ j, j ≠ g → w'.heap[j]? = w.heap[j]?) ∧ w'.heap.size = w.heap.size ∧ Same w w'
  | [], i, cur, w, hg, _, _, _ => ⟨w, cur, rfl, hg, rfl, fun j => by rw [if_neg (by simp)], fun _ _ => rfl, rfl, rfl, rfl, rfl⟩
  | v :: vs, i, cur, w, hg, hl, hv, hfr => by
    simp only [List.length_cons] at hl
    have hlt : o + i < cur.size := by omega
    have hcell : w.cell? ⟨g, o + i, none⟩ = some cur[o + i] := by simp [World.cell?, hg, hlt]
    have hfz : w.frozen? ⟨g, o + i, none⟩ = false := by
      have := hfr (o + i) hlt
      simp only [World.frozen?, hg]
      simpa using this
    have hg' : (w.setCell ⟨g, o + i, none⟩ v).heap[g]? = some (.cells (cur.setIfInBounds (o + i) v) t fr) := by
      simp [World.setCell, Array.getElem?_modify, hg]
    obtain ⟨w', cur', h1, h2, h3, h4, h5, h6, h7⟩ := run_storeCells (o := o) vs (i + 1) _ _ hg' (by simp; omega) (fun u hu => hv u (List.mem_cons_of_mem _ hu)) (by simpa using hfr)
    refine ⟨w', cur', ?_, h2, by simpa using h3, fun j => ?_, fun j hj => ?_, ?_, ?_⟩
    · simp only [storeCells, Sem.run_bind, Addr.add_lit, run_store P w _ v .plain (hv v (List.mem_cons_self ..)), hcell, hfz]
      simpa using h1
    · rw [h4]
      simp only [List.length_cons]
      by_cases hj : j = o + i
      · subst hj
        rw [if_neg (by omega), if_pos (by omega)]
        simp [hlt]
      · by_cases hj2 : o + (i + 1) ≤ j ∧ j < o + (i + 1) + vs.length
        · rw [if_pos hj2, if_pos (by omega), show j - (o + i) = (j - (o + (i + 1))) + 1 by omega]
          simp
        · rw [if_neg hj2, if_neg (by omega), Array.getElem?_setIfInBounds_ne (fun e => hj e.symm)]
    · rw [h5 j hj]
      simp [World.setCell, Array.getElem?_modify, Ne.symm hj]
    · rw [h6]; simp [World.setCell]
    · exact ⟨h7.os, h7.tape, h7.output⟩

/-- The evaluator's load of a cell. -/
theorem loadC_ok {id b off : Nat} {k : V → R} (h : loadC id H b off k = 1) : ∃ row v, rowOf (H.get b) = some row ∧ row[off]? = some v ∧ k v = 1 := by
  unfold loadC at h
  rw [hGet_eq] at h
  rcases bOn_ok h with ⟨l, hb, h1⟩ | ⟨len, n, hb, h1⟩
  · obtain ⟨v, h2, h3⟩ := nth_ok h1
    exact ⟨l, v, by rw [hb]; rfl, h2, h3⟩
  · obtain ⟨h2, h3⟩ := ifB_no h1
    have hlt := blt_of h2
    rw [forceN_eq] at h3
    refine ⟨_, byteV (UInt8.ofNat (n / 256 ^ off % 256)), by rw [hb]; rfl, by rw [List.getElem?_map, sbytes_get _ _ _ hlt]; rfl, ?_⟩
    have e : Nat.land (Nat.shiftRight n (Nat.mul 8 off)) 255 = n / 256 ^ off % 256 := by
      show (n >>> (8 * off)) &&& 255 = _
      rw [Nat.shiftRight_eq_div_pow, Nat.pow_mul, show (255 : Nat) = 2 ^ 8 - 1 by rfl, Nat.and_two_pow_sub_one_eq_mod]
    rw [e] at h3
    simpa [byteV] using h3
theorem loadN_ok {id b off n : Nat} {k : List V → R} (h : loadN id H b off n k = 1) : ∃ row, rowOf (H.get b) = some row ∧ off + n ≤ row.length ∧ k ((row.drop off).take n) = 1 := by
  unfold loadN at h
  rw [hGet_eq] at h
  rcases bOn_ok h with ⟨l, hb, h1⟩ | ⟨len, m, hb, h1⟩
  · obtain ⟨h2, h3⟩ := dropN_ok h1
    obtain ⟨h4, h5⟩ := takeN_ok h3
    refine ⟨l, by rw [hb]; rfl, by simp at h4; omega, h5⟩
  · obtain ⟨h2, h3⟩ := ifB_no h1
    have hle : off + n ≤ len := ble_of h2
    rw [unpackB_eq] at h3
    refine ⟨_, by rw [hb]; rfl, by simpa [sbytes_length] using hle, ?_⟩
    have e : Nat.shiftRight m (Nat.mul 8 off) = m / 256 ^ off := by
      show m >>> (8 * off) = _
      rw [Nat.shiftRight_eq_div_pow, Nat.pow_mul]
    rw [e] at h3
    rw [← List.map_drop, ← List.map_take, sbytes_drop _ _ _ (by omega), sbytes_take _ _ _ (by omega)]
    exact h3
/-- Bytes of cells. -/
def BytesOf (l : List V) (x : Nat) : Prop := l = (sbytes l.length x).map byteV ∧ x < 256 ^ l.length
def SmallB (l : List V) : Prop := ∀ v ∈ l, ∀ x, v = .int 4 x → x < 256
theorem loadB_ok {id b off n : Nat} {k : Nat → R} (h : loadB id H b off n k = 1) : ∃ row x, rowOf (H.get b) = some row ∧ off + n ≤ row.length ∧ k x = 1 ∧ (∀ v ∈ (row.drop off).take n, ∃ x, v = .int 4 x) ∧ (SmallB ((row.drop off).take n) → BytesOf ((row.drop off).take n) x) := by
  unfold loadB at h
  rw [hGet_eq] at h
  rcases bOn_ok h with ⟨l, hb, h1⟩ | ⟨len, m, hb, h1⟩
  · obtain ⟨h2, h3⟩ := dropN_ok h1
    obtain ⟨h4, h5⟩ := takeN_ok h3
    obtain ⟨x, h6, h60, h7⟩ := packB_ok h5
    exact ⟨l, x, by rw [hb]; rfl, by simp at h4; omega, h6, h60, h7⟩
  · obtain ⟨h2, h3⟩ := ifB_no h1
    have hle : off + n ≤ len := ble_of h2
    rw [forceN_eq] at h3
    refine ⟨_, _, by rw [hb]; rfl, by simpa [sbytes_length] using hle, h3, fun v hv => ?_, fun _ => ?_⟩
    · rw [← List.map_drop, ← List.map_take] at hv
      obtain ⟨y, _, rfl⟩ := List.mem_map.1 hv
      exact ⟨_, rfl⟩
    have e : Nat.mod (Nat.shiftRight m (Nat.mul 8 off)) (Nat.pow 256 n) = m / 256 ^ off % 256 ^ n := by
      show (m >>> (8 * off)) % 256 ^ n = _
      rw [Nat.shiftRight_eq_div_pow, Nat.pow_mul]
    rw [e]
    have hl : (((sbytes len m).map byteV).drop off |>.take n).length = n := by simp [sbytes_length]; omega
    refine ⟨?_, by rw [hl]; exact Nat.mod_lt _ (Nat.pow_pos (by decide))⟩
    rw [hl, ← List.map_drop, ← List.map_take, sbytes_drop _ _ _ (by omega), sbytes_take _ _ _ (by omega)]
    congr 1
    exact sbytes_mod _ _ _ (by simp)
theorem VR.int4 {m : M} {x : Nat} {c : Value} (h : VR m (.int 4 x) c) : x < 256 ∧ c = .int .u8 x := by
  simp only [VR] at h
  obtain ⟨h1, h2, _⟩ := h
  have h3 : x < 256 := h2
  exact ⟨h3, h1.trans (by show Value.int .u8 (toI .u8 x) = _; rw [toI_u8 x h3])⟩
theorem VRs.mem {m : M} {l : List V} {cs : List Value} (h : VRs m l cs) {v : V} (hv : v ∈ l) : ∃ c ∈ cs, VR m v c := by
  obtain ⟨i, hi⟩ := List.getElem?_of_mem hv
  obtain ⟨c, h1, h2⟩ := h.get hi
  exact ⟨c, List.mem_of_getElem? h1, h2⟩
theorem VRs.small {m : M} {l : List V} {cs : List Value} (h : VRs m l cs) : SmallB l := fun v hv x e => by
  obtain ⟨c, _, h2⟩ := h.mem hv
  subst e
  exact h2.int4.1

theorem sbytes_splice {len x off ml mx : Nat} (hx : x < 256 ^ len) (hm : mx < 256 ^ ml) (hl : off + ml ≤ len) :
    sbytes len (Nat.add (Nat.mod x (Nat.pow 256 off)) (Nat.shiftLeft (Nat.add mx (Nat.shiftLeft (Nat.shiftRight x (Nat.mul 8 (Nat.add off ml))) (Nat.mul 8 ml))) (Nat.mul 8 off)))
      = (sbytes len x).take off ++ (sbytes ml mx ++ (sbytes len x).drop (off + ml)) ∧
    Nat.add (Nat.mod x (Nat.pow 256 off)) (Nat.shiftLeft (Nat.add mx (Nat.shiftLeft (Nat.shiftRight x (Nat.mul 8 (Nat.add off ml))) (Nat.mul 8 ml))) (Nat.mul 8 off)) < 256 ^ len := by
  have e1 : Nat.shiftRight x (Nat.mul 8 (Nat.add off ml)) = x / 256 ^ (off + ml) := by
    show x >>> (8 * (off + ml)) = _
    rw [Nat.shiftRight_eq_div_pow, Nat.pow_mul]
  have e2 : ∀ y k : Nat, Nat.shiftLeft y (Nat.mul 8 k) = 256 ^ k * y := fun y k => by
    show y <<< (8 * k) = _
    rw [Nat.shiftLeft_eq, Nat.pow_mul, Nat.mul_comm]
  rw [e1, e2, e2]
  show sbytes len (x % 256 ^ off + 256 ^ off * (mx + 256 ^ ml * (x / 256 ^ (off + ml)))) = _ ∧ x % 256 ^ off + 256 ^ off * (mx + 256 ^ ml * (x / 256 ^ (off + ml))) < _
  have hp : 0 < 256 ^ off := Nat.pow_pos (by decide)
  have hmod : x % 256 ^ off < 256 ^ off := Nat.mod_lt _ hp
  have hd : x / 256 ^ (off + ml) < 256 ^ (len - off - ml) := by
    apply Nat.div_lt_of_lt_mul
    rw [← Nat.pow_add, show off + ml + (len - off - ml) = len by omega]
    exact hx
  constructor
  · have := sbytes_append off (ml + (len - off - ml)) (x % 256 ^ off) (mx + 256 ^ ml * (x / 256 ^ (off + ml))) hmod
    rw [show off + (ml + (len - off - ml)) = len by omega] at this
    rw [this, sbytes_append ml _ _ _ hm, sbytes_take _ _ _ (by omega), sbytes_drop _ _ _ hl, show len - (off + ml) = len - off - ml by omega]
    rw [sbytes_mod off (x % 256 ^ off) x (by simp)]
  · have h1 : mx + 256 ^ ml * (x / 256 ^ (off + ml)) < 256 ^ ml * 256 ^ (len - off - ml) := by
      calc mx + 256 ^ ml * (x / 256 ^ (off + ml)) < 256 ^ ml + 256 ^ ml * (x / 256 ^ (off + ml)) := by omega
        _ = 256 ^ ml * (x / 256 ^ (off + ml) + 1) := by rw [Nat.mul_add, Nat.mul_one, Nat.add_comm]
        _ ≤ 256 ^ ml * 256 ^ (len - off - ml) := Nat.mul_le_mul_left _ hd
    calc x % 256 ^ off + 256 ^ off * (mx + 256 ^ ml * (x / 256 ^ (off + ml))) < 256 ^ off + 256 ^ off * (mx + 256 ^ ml * (x / 256 ^ (off + ml))) := by omega
      _ = 256 ^ off * (mx + 256 ^ ml * (x / 256 ^ (off + ml)) + 1) := by rw [Nat.mul_add _ _ 1, Nat.mul_one, Nat.add_comm]
      _ ≤ 256 ^ off * (256 ^ ml * 256 ^ (len - off - ml)) := Nat.mul_le_mul_left _ h1
      _ = 256 ^ len := by rw [← Nat.pow_add, ← Nat.pow_add]; congr 1; omega

theorem RowR.splice {mu : M} {row m : List V} {cs cs' : Array Value} {ms : List Value} {fr : Nat × Nat} {o : Nat} (h : RowR mu row cs fr) (hm : VRs mu m ms) (h1 : ∀ v ∈ m, v.one = true) (hl : o + m.length ≤ row.length)
    (hsz : cs'.size = cs.size) (hg : ∀ j : Nat, cs'[j]? = if o + 0 ≤ j ∧ j < o + 0 + ms.length then ms[j - (o + 0)]? else cs[j]?) : RowR mu (row.take o ++ (m ++ row.drop (o + m.length))) cs' fr := by
  refine ⟨fun i v hi => ?_, by rw [hsz]; exact h.2⟩
  have hml := hm.length
  rw [hg]
  by_cases hi1 : i < o
  · rw [List.getElem?_append_left (by simp; omega), List.getElem?_take, if_pos hi1] at hi
    rw [if_neg (by omega)]
    exact h.1 i v hi
  · rw [List.getElem?_append_right (by simp; omega)] at hi
    rw [show (row.take o).length = o by simp; omega] at hi
    by_cases hi2 : i - o < m.length
    · rw [List.getElem?_append_left hi2] at hi
      rw [if_pos (by omega)]
      obtain ⟨c, h2, h3⟩ := hm.get hi
      exact ⟨h1 v (List.mem_of_getElem? hi), c, by simpa using h2, h3⟩
    · rw [List.getElem?_append_right (by omega), List.getElem?_drop, show o + m.length + (i - o - m.length) = i by omega] at hi
      rw [if_neg (by omega)]
      exact h.1 i v hi

theorem vrs_one {mm : M} {m : List V} {ms : List Value} (hv : VRs mm m ms) (hone : ∀ v ∈ m, v.one = true) : ∀ u ∈ ms, u.oneCell' = true := fun u hu => by
  obtain ⟨i, hi⟩ := List.getElem?_of_mem hu
  have hlt : i < m.length := by
    rw [← hv.length]
    rcases Nat.lt_or_ge i ms.length with h | h
    · exact h
    · simp [List.getElem?_eq_none h] at hi
  obtain ⟨c', h3, h4⟩ := hv.get (List.getElem?_eq_getElem hlt)
  rw [hi] at h3
  cases h3
  exact one_cell' h4 (hone _ (List.getElem_mem hlt))
theorem storeN_one {id b off : Nat} {m : List V} {k : Heap → R} (h1 : storeN id H b off m k = 1) : ∀ v ∈ m, v.one = true := by
  unfold storeN at h1
  rw [hGet_eq] at h1
  rcases bOn_ok h1 with ⟨l, hb, h2⟩ | ⟨len, x, hb, h2⟩
  · exact (allOne_ok h2).1
  · obtain ⟨mx, h3, h30, h4⟩ := packB_ok h2
    exact fun v hv => by obtain ⟨x, rfl⟩ := h30 v hv; rfl
end
end Go.Ev
