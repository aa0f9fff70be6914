/- delete, append, copy. -/
import Derived.Test.YtaodjhgfhdncgaaGreatDoorEv18
set_option linter.unusedSectionVars false
set_option linter.unusedVariables false
set_option linter.unusedSimpArgs false
namespace Go.Ev
open Go.RowKit

section
variable {P : Program} {nt : Nat} {o : Oper} {id : Nat} {ph : Phi} {e : Env} {H : Heap} {k : K}

theorem vr_unit {m : M} : VR m (.tup []) (.tuple #[]) := by
  simp only [VR]
  exact ⟨#[], rfl, by simp only [VRs]⟩

theorem s_delete {as : Array Operand} {ts : Array TypeId} (hop : o.op = .call { callee := .builtin .delete, args := as, argTypes := ts }) (h : evOp (compOp P nt o) id ph e H k = 1) : Good P nt o e H k := by
  simp only [compOp, hop, compBuiltin] at h
  have hnd : ∀ c, o.op ≠ .defer c := by simp [hop]
  split at h
  · rename_i m' x' t tr hx hts
    obtain ⟨mm, x, rfl, hm, hx⟩ := args2 hx
    have hts' : ts[0]? = some t := by rw [← Array.getElem?_toList, hts]; rfl
    split at h
    · rename_i kt el hu
      split at h
      · rename_i ks hks
        obtain ⟨d, hd1, hd2⟩ := keyT_ok hks
        have h' : eMdel ks m' x' id ph e H k = 1 := h
        unfold eMdel at h'
        rw [getA_eq, getA_eq] at h'
        obtain ⟨b, hb, h1⟩ := vMap_ok h'
        rw [hGet_eq] at h1
        obtain ⟨es, hes, h2⟩ := bMap_ok h1
        obtain ⟨es2, h3, hkd, h4⟩ := delL_ok h2
        obtain ⟨H', h5, h6⟩ := hSet_ok h3
        refine ⟨_, _, OpS.of_run hnd fun base w0 rho w a hp ho => ?_, h5⟩
        have vm := ho mm (by simp [hop, Op.operands, Call.operands]) m' hm
        rw [hb] at vm
        simp only [VR] at vm
        obtain ⟨c, hcm, hmu⟩ := vm
        obtain ⟨hr, ents, clock, es', g1, gp, go, g2, gs⟩ := hp.map_at hes hmu
        have hka := kd_all hkd go
        have hka' : ∀ p ∈ es', KdK ks (pgetA x' e) p.1 := fun p hp => hka p (gp.mem_iff.1 hp)
        have vx := ho x (by simp [hop, Op.operands, Call.operands]) x' hx
        rcases h4 with ⟨v, h7⟩ | ⟨h7, rfl⟩
        · obtain ⟨i, cv, en, f1, f2, f3, f4, f5⟩ := find_hit vx hd2 0 ((gp.trans h7).mem_iff.2 (List.mem_cons_self ..)) (keys_perm gp go).1 hka' g2
          obtain ⟨p1, p2⟩ := hp.map_write (ents := ents.eraseIdxIfInBounds i) (clock := clock) (es' := es'.eraseIdx i) hes hr g1 h6 ((perm_erase f3).symm.trans (gp.trans h7)).cons_inv (keys_perm h7.symm go).tail (stamps_erase (i := i) gs (by
            have hlt : i < ents.size := by simpa using (List.getElem?_eq_some_iff.1 f4).1
            rw [Array.eraseIdxIfInBounds, dif_pos hlt, Array.toList_eraseIdx])) (by
            have hlt : i < ents.size := by simpa using (List.getElem?_eq_some_iff.1 f4).1
            rw [Array.eraseIdxIfInBounds, dif_pos hlt, Array.toList_eraseIdx]; exact Ents.erase g2)
          refine ⟨.tuple #[], _, ?_, rho, vr_unit, p1, p2⟩
          rw [builtin_ex hop a.eval]
          simp [builtin, Builtin.delete_, hts', run_underlying hu, hcm, run_getObj g1, run_checkKey hd1 hd2, run_findKey hd1 f1, run_setObj g1]
        · have f1 := find_miss vx hd2 0 (fun p hp => h7 p (gp.mem_iff.1 hp)) hka' g2
          obtain ⟨p1, p2⟩ := hp.map_write (ents := ents) (clock := clock) (es' := es') hes hr g1 h6 gp go gs g2
          refine ⟨.tuple #[], _, ?_, rho, vr_unit, p1, p2⟩
          rw [builtin_ex hop a.eval]
          simp [builtin, Builtin.delete_, hts', run_underlying hu, hcm, run_getObj g1, run_checkKey hd1 hd2, run_findKey hd1 f1, run_setObj g1]
      · exact (no_ne h).elim
    · exact (no_ne h).elim
  · exact (no_ne h).elim

/-- The cells of what is appended, or copied. -/
def NewsOK (P : Program) (H : Heap) (size : Nat) (x : V) (n : Nat) (l : List V) : Prop :=
  (∀ (m : M) (c : Value), VR m x c → ∀ w : World, (Builtin.lenOf c).run P w = .ok n w) ∧
  ∀ {base : Nat} {w0 w : World} {rho : Nat → Option Nat} {c : Value}, PR P base w0 rho H w → VR (mu rho H w) x c → l.length = n * size ∧ ∀ n', n' ≤ n → ∃ cs : List Value, (Builtin.firstCells size n' c).run P w = .ok cs.toArray w ∧ VRs (mu rho H w) (l.take (n' * size)) cs

theorem lenOf_ok {m : M} {c : Value} {w : World} :
    (∀ b o l cp sz, VR m (.slice b o l cp sz) c → (Builtin.lenOf c).run P w = .ok l w) ∧ (VR m .nils c → (Builtin.lenOf c).run P w = .ok 0 w) ∧ (∀ l n, VR m (.str l n) c → (Builtin.lenOf c).run P w = .ok l w) := by
  refine ⟨fun b o l cp sz v => ?_, fun v => ?_, fun l n v => ?_⟩
  · simp only [VR] at v; obtain ⟨c1, cap, o', rfl, _⟩ := v; rfl
  · simp only [VR] at v; rw [v]; rfl
  · simp only [VR] at v; rw [v.1]; simp [Builtin.lenOf, ByteArray.size, sbytes_length]

/-- Cells of a slice, read through its own address. -/
theorem PR.slice_cells {base : Nat} {w0 w : World} {rho : Nat → Option Nat} (hp : PR P base w0 rho H w) {b o' off c n : Nat} {row : List V} (hm : (mu rho H w).b b c) (hrow : rowOf (H.get b) = some row) (hn : off + n ≤ row.length) (ho : o' = off ∨ n = 0) :
    ∃ cs : List Value, (loadCells ⟨c, o', none⟩ n).run P w = .ok cs.toArray w ∧ VRs (mu rho H w) ((row.drop off).take n) cs := by
  rcases ho with rfl | rfl
  · obtain ⟨cs, h1, h2, _⟩ := hp.cells (hp.rho_of hm hrow) hrow hn
    exact ⟨cs, h1, h2⟩
  · exact ⟨[], rfl, by simp only [List.take_zero, VRs]⟩

theorem news_str {len n : Nat} : NewsOK P H 1 (.str len n) len ((sbytes len n).map byteV) := by
  refine ⟨fun m c v w => lenOf_ok.2.2 _ _ v, fun {base w0 w rho c} hp v => ⟨by simp [sbytes_length], fun n' hn => ?_⟩⟩
  simp only [VR] at v
  refine ⟨((sbytes len n).take n').map fun y => Value.int .u8 y.toNat, ?_, ?_⟩
  · rw [v.1]
    simp only [Builtin.firstCells, Sem.run_pure]
    congr 1
    apply Array.ext'
    simp [Go.Lib.extract_data]
  · rw [Nat.mul_one, ← List.map_take]
    exact VRs.of_get (by simp) fun i v' c' g1 g2 => by
      rw [List.getElem?_map, Option.map_eq_some_iff] at g1 g2
      obtain ⟨y, hy, rfl⟩ := g1
      obtain ⟨y', hy', rfl⟩ := g2
      rw [hy] at hy'
      cases hy'
      exact VR_byte _ y
theorem news_slice {b off len cp sz size : Nat} {row : List V} (h1 : rowOf (H.get b) = some row) (h2 : off + len * size ≤ row.length) : NewsOK P H size (.slice b off len cp sz) len ((row.drop off).take (len * size)) := by
  refine ⟨fun m c v w => lenOf_ok.1 _ _ _ _ _ v, fun {base w0 w rho c} hp v => ⟨by rw [List.length_take, List.length_drop]; omega, fun n' hn => ?_⟩⟩
  simp only [VR] at v
  obtain ⟨c1, cap, o', rfl, hm, hle, hcp, ho'⟩ := v
  have hns : n' * size ≤ len * size := Nat.mul_le_mul_right _ hn
  obtain ⟨cs, g1, g2⟩ := hp.slice_cells (o' := o') (off := off) (n := n' * size) hm h1 (by omega) (by
    rcases ho' with h | h
    · exact Or.inl h
    · right
      have : n' = 0 := by omega
      subst this
      omega)
  refine ⟨cs, by simpa [Builtin.firstCells] using g1, ?_⟩
  rw [List.take_take, Nat.min_eq_left hns]
  exact g2
theorem news_nils {size : Nat} : NewsOK P H size .nils 0 [] := by
  refine ⟨fun m c v w => lenOf_ok.2.1 v, fun {base w0 w rho c} hp v => ⟨by simp, fun n' hn => ?_⟩⟩
  simp only [VR] at v
  have : n' = 0 := by omega
  subst this
  exact ⟨[], by rw [v]; rfl, by simp only [Nat.zero_mul, List.take_zero, VRs]⟩

theorem newCells_ok {size : Nat} {x : V} {f : Nat → List V → R} (h : newCells id size H x f = 1) : ∃ n l, f n l = 1 ∧ NewsOK P H size x n l := by
  cases x <;> first | exact (no_ne h).elim | skip
  · rename_i len n
    have h' : ifB (Nat.beq size 1) (unpackB len n fun m => f len m) (no _) = 1 := h
    obtain ⟨h1, h2⟩ := ifB_no h'
    have := beq_of h1
    subst this
    rw [unpackB_eq] at h2
    exact ⟨_, _, h2, news_str⟩
  · rename_i b off len cp sz
    have h' : loadN id H b off (Nat.mul len size) (fun m => f len m) = 1 := h
    obtain ⟨row, h1, h2, h3⟩ := loadN_ok h'
    exact ⟨_, _, h3, news_slice h1 h2⟩
  · exact ⟨0, [], h, news_nils⟩
theorem newBytes_ok {x : V} {f : Nat → Nat → R} (h : newBytes id H x f = 1) : ∃ n y l, f n y = 1 ∧ NewsOK P H 1 x n l ∧ (∀ v ∈ l, v.one = true) ∧ ∀ (m : M) (c : Value), VR m x c → SmallB l → BytesOf l y := by
  cases x <;> first | exact (no_ne h).elim | skip
  · rename_i len n
    refine ⟨len, n, _, h, news_str, fun v hv => by obtain ⟨y, _, rfl⟩ := List.mem_map.1 hv; rfl, fun m c v _ => ?_⟩
    simp only [VR] at v
    exact ⟨by simp [sbytes_length], by simpa [sbytes_length] using v.2⟩
  · rename_i b off len cp sz
    have h' : loadB id H b off len (fun m => f len m) = 1 := h
    obtain ⟨row, y, h1, h2, h3, h4, h5⟩ := loadB_ok h'
    have hN := news_slice (P := P) (size := 1) (cp := cp) (sz := sz) h1 (show off + len * 1 ≤ row.length by omega)
    rw [Nat.mul_one] at hN
    exact ⟨len, y, _, h3, hN, fun v hv => by obtain ⟨x, rfl⟩ := h4 v hv; rfl, fun _ _ _ hs => h5 hs⟩
  · exact ⟨0, 0, [], h, news_nils, fun v hv => absurd hv (by simp), fun _ _ _ _ => ⟨rfl, by simp⟩⟩

/-! ### append -/
theorem growBy_le {n : Nat} (hn : n ≤ 1073741824) : ∀ (r c : Nat), c ≤ 2147483648 → Builtin.growBy n r c ≤ 2147483648
  | 0, c, h => h
  | r + 1, c, h => by
    simp only [Builtin.growBy]
    split
    · exact h
    · exact growBy_le hn r _ (by omega)
theorem next_le {need cap : Nat} (hn : need ≤ 1073741824) (hc : cap < need) : Builtin.nextslicecap need cap ≤ 2147483648 := by
  unfold Builtin.nextslicecap
  split
  · omega
  · split
    · omega
    · exact growBy_le hn 4 cap (by omega)

theorem notInt {d : TypeDesc} (h : ∀ k, d ≠ .int k) : (match d with | .int _ => true | _ => false) = false := by cases d <;> first | rfl | exact absurd rfl (h _)
structure AppT (P : Program) (ts : Array TypeId) (el : TypeId) (size : Nat) (i : TypeInfo) (zv : Value) : Prop where
  t0 : ∃ st, ts[0]? = some st ∧ P.underlying st = some (.slice el)
  t1 : ∃ xt d, ts[1]? = some xt ∧ P.underlying xt = some d ∧ ∀ k, d ≠ .int k
  info : P.info? el = some i
  isz : i.size = size
  bytes : i.bytes ≤ 65536
  zero : i.zero = some zv
  zsize : zv.cells.size = size

/-- In place. -/
theorem run_append_in {ts : Array TypeId} {el : TypeId} {size : Nat} {i : TypeInfo} {zv : Value} (hT : AppT P ts el size i zv) {ot : TypeId} {base : Option Addr} {sLen sCap n : Nat} {x : Value} {new : List Value} {w w' : World}
    (hn : (Builtin.lenOf x).run P w = .ok n w) (hf : (Builtin.firstCells size n x).run P w = .ok new.toArray w) (hle : sLen + n ≤ sCap)
    (hst : match base with | some a => (storeCells (a.add (sLen * size)) new).run P w = .ok () w' | none => w' = w) :
    (Builtin.append_ ts ot #[.slice base sLen sCap, x]).run P w = .ok (.slice base (sLen + n) sCap) w' := by
  obtain ⟨st, h1, h2⟩ := hT.t0
  obtain ⟨xt, d, h3, h4, h5⟩ := hT.t1
  have hz := notInt h5
  have hsz : (sizeOf el).run P w = .ok size w := by simp [sizeOf, typeInfo, hT.info, hT.isz]
  cases base with
  | none =>
    subst hst
    simp only [Builtin.append_, h1, h3, Sem.run_bind, run_underlying h2, run_underlying h4, hsz, Result.andThen_ok, Sem.run_pure, hz, Bool.false_eq_true, if_false, hn, hle, if_true, Bool.not_false, hf]
    simp [h1, h3, run_underlying h2, run_underlying h4, hsz, hz, hn, hle, hf]
  | some a =>
    simp only [] at hst
    simp [Builtin.append_, h1, h3, run_underlying h2, run_underlying h4, hsz, hz, hn, hle, hf, hst]

/-- In a new row. -/
theorem run_append_grow {ts : Array TypeId} {el : TypeId} {size : Nat} {i : TypeInfo} {zv : Value} (hT : AppT P ts el size i zv) {ot : TypeId} {base : Option Addr} {sLen sCap n : Nat} {x : Value} {old new : List Value} {w : World}
    (hn : (Builtin.lenOf x).run P w = .ok n w) (hlt : sCap < sLen + n) (hb : sLen + n ≤ 1073741824)
    (ho : (Builtin.firstCells size sLen (.slice base sLen sCap)).run P { w with drawn := w.drawn + 1 } = .ok old.toArray { w with drawn := w.drawn + 1 })
    (hf : (Builtin.firstCells size n x).run P { w with drawn := w.drawn + 1 } = .ok new.toArray { w with drawn := w.drawn + 1 }) :
    ∃ cap w' rest, (sLen + n ≤ cap ∧ cap < 9223372036854775808) ∧ rest.size = (cap - (sLen + n)) * size ∧ (Builtin.append_ ts ot #[.slice base sLen sCap, x]).run P w = .ok (.slice (some ⟨w.heap.size, 0, none⟩) (sLen + n) cap) w' ∧ Same w w' ∧ w'.heap = w.heap.push (.cells (old.toArray ++ new.toArray ++ rest) el) := by
  obtain ⟨st, h1, h2⟩ := hT.t0
  obtain ⟨xt, d, h3, h4, h5⟩ := hT.t1
  have hz := notInt h5
  have hsz : (sizeOf el).run P w = .ok size w := by simp [sizeOf, typeInfo, hT.info, hT.isz]
  have hti : ∀ w : World, (typeInfo el).run P w = .ok i w := fun w => by simp [typeInfo, hT.info]
  have hzr : ∀ w : World, (zeroValue el).run P w = .ok zv w := fun w => by simp [zeroValue, typeInfo, hT.info, hT.zero]
  have hnle : ¬ sLen + n ≤ sCap := by omega
  have hbig : ¬ (((sLen + n : Nat) : Int) > IntKind.i64.max ∧ ((false = true) ∨ i.bytes = 0)) := by
    rintro ⟨h6, _⟩
    simp [IntKind.max, IntKind.signed, IntKind.bits] at h6
    omega
  have hcap : ¬ (Builtin.nextslicecap (sLen + n) sCap * i.bytes > 2 ^ 48) := by
    have := next_le hb hlt
    have h7 : Builtin.nextslicecap (sLen + n) sCap * i.bytes ≤ 2147483648 * 65536 := Nat.mul_le_mul this hT.bytes
    omega
  have hq : (choose (.appendCap (sLen + n) sCap el)).run P w = .ok ((Question.appendCap (sLen + n) sCap el).cut (w.tape w.drawn (.appendCap (sLen + n) sCap el))) { w with drawn := w.drawn + 1 } := by
    rw [run_choose]; rfl
  have hle : sLen + n ≤ (Question.appendCap (sLen + n) sCap el).cut (w.tape w.drawn (.appendCap (sLen + n) sCap el)) ∧ (Question.appendCap (sLen + n) sCap el).cut (w.tape w.drawn (.appendCap (sLen + n) sCap el)) < 9223372036854775808 := by
    have hmod := Nat.mod_lt (w.tape w.drawn (.appendCap (sLen + n) sCap el)) (show 0 < 2 ^ 63 - (sLen + n) by omega)
    simp only [Question.cut]
    omega
  generalize (Question.appendCap (sLen + n) sCap el).cut (w.tape w.drawn (.appendCap (sLen + n) sCap el)) = cap at hq hle
  refine ⟨cap, { w with drawn := w.drawn + 1, heap := w.heap.push (.cells (old.toArray ++ new.toArray ++ Builtin.zeroCells zv.cells (cap - (sLen + n))) el) }, Builtin.zeroCells zv.cells (cap - (sLen + n)), hle, by simp [Builtin.zeroCells, hT.zsize], ?_, ⟨rfl, rfl, rfl⟩, rfl⟩
  have hbig' : ¬ (IntKind.i64.max < (((sLen + n : Nat)) : Int) ∧ i.bytes = 0) := fun h => hbig ⟨h.1, Or.inr h.2⟩
  have hcap' : ¬ (2 ^ 48 < Builtin.nextslicecap (sLen + n) sCap * i.bytes) := hcap
  unfold Builtin.append_
  simp only [h1, List.getElem?_toArray, List.getElem?_cons_zero, List.getElem?_cons_succ]
  simp only [h3, Sem.run_bind, run_underlying h2, run_underlying h4, hsz, Result.andThen_ok, Sem.run_pure, hz, Bool.false_eq_true, if_false, hn, hnle, hti, hbig, hcap, hq, run_askRoom, Sem.run_ite, Bool.not_false, if_true, ho, hf, hzr, newRow, run_newObj]
  rw [if_neg (fun h => hbig' ⟨h.1, h.2.resolve_left id⟩)]

theorem appT_ok {st xt el : TypeId} {s' : Nat} {i : TypeInfo} {as : Array TypeId} (hts : as.toList = [st, xt]) (hel : sliceT P st = some el) (hs : szT P el = some s') (hi : P.info? el = some i) (hb : i.bytes ≤ 65536) (hz : zlen P el s' = true) (hl : lenT P xt = true) :
    ∃ zv, AppT P as el s' i zv := by
  obtain ⟨zv, hzv, hzs⟩ : ∃ zv, i.zero = some zv ∧ zv.cells.size = s' := by
    unfold zlen at hz
    split at hz
    · rename_i z hzt
      obtain ⟨i', zv, h1, h2, h3, _⟩ := zeroT_ok hzt
      rw [hi] at h1
      cases h1
      have := (h3 ⟨fun _ _ => True, fun _ _ => True⟩).length
      exact ⟨zv, h2, by simp at this hz; omega⟩
    · cases hz
  have h0 : as[0]? = some st := by rw [← Array.getElem?_toList, hts]; rfl
  have h1 : as[1]? = some xt := by rw [← Array.getElem?_toList, hts]; rfl
  refine ⟨zv, ⟨st, h0, sliceT_ok hel⟩, ?_, hi, by simpa [szT, hi] using hs, hb, hzv, hzs⟩
  unfold lenT at hl
  split at hl
  · rename_i hu; exact ⟨xt, _, h1, hu, fun k => by simp⟩
  · rename_i hu; exact ⟨xt, _, h1, hu, fun k => by simp⟩
  · rename_i hu; exact ⟨xt, _, h1, hu, fun k => by simp⟩
  · cases hl

section app
variable {p q : Operand} {ts : Array TypeId} {s x : Arg} {el : TypeId} {size : Nat} {i : TypeInfo} {zv : Value}

/-- What all ends of append share. -/
theorem app_fin (hop : o.op = .call { callee := .builtin .append, args := #[p, q], argTypes := ts }) (hp' : compArg nt p = some s) (hq' : compArg nt q = some x) {v : V} {H' : Heap}
    (h : ∀ (base : Nat) (w0 : World) (rho : Nat → Option Nat) (w : World) (cs cx : Value), PR P base w0 rho H w → VR (mu rho H w) (pgetA s e) cs → VR (mu rho H w) (pgetA x e) cx → ∃ cv w', (Builtin.append_ ts o.type #[cs, cx]).run P w = .ok cv w' ∧ Left P base w0 rho H w v H' cv w') : OpS P nt o e H v H' :=
  OpS.of_run (by simp [hop]) fun base w0 rho w a hp ho => by
    obtain ⟨cv, w', h1, h2⟩ := h base w0 rho w _ _ hp (ho p (by simp [hop, Op.operands, Call.operands]) s hp') (ho q (by simp [hop, Op.operands, Call.operands]) x hq')
    refine ⟨cv, w', ?_, h2⟩
    rw [builtin_ex hop a.eval]
    simp [builtin, h1]

/-- Nothing is appended. -/
theorem app_none (hT : AppT P ts el size i zv) {l : List V} (hN : NewsOK P H size (pgetA x e) 0 l) (hsl : (∃ b o len cp sz, pgetA s e = .slice b o len cp sz) ∨ pgetA s e = .nils) {base : Nat} {w0 : World} {rho : Nat → Option Nat} {w : World} {cs cx : Value} (hp : PR P base w0 rho H w) (vs : VR (mu rho H w) (pgetA s e) cs) (vx : VR (mu rho H w) (pgetA x e) cx) {ot : TypeId} :
    ∃ cv w', (Builtin.append_ ts ot #[cs, cx]).run P w = .ok cv w' ∧ Left P base w0 rho H w (pgetA s e) H cv w' := by
  have hlen := hN.1 _ _ vx w
  obtain ⟨_, h2⟩ := hN.2 hp vx
  obtain ⟨cl, h3, h4⟩ := h2 0 (Nat.le_refl _)
  have hcl : cl = [] := by simp only [Nat.zero_mul, List.take_zero, VRs] at h4; exact h4
  subst hcl
  refine ⟨cs, w, ?_, rho, vs, hp, Ext.refl hp.lt⟩
  rcases hsl with ⟨b, oo, len, cp, sz, hs⟩ | hs <;> rw [hs] at vs <;> simp only [VR] at vs
  · obtain ⟨c, cap, o', rfl, hm, hle, _⟩ := vs
    exact run_append_in hT (base := some ⟨c, o', none⟩) (sLen := len) (sCap := cap) (n := 0) (new := []) hlen h3 hle rfl
  · rw [vs]
    exact run_append_in hT (base := none) (sLen := 0) (sCap := 0) (n := 0) (new := []) hlen h3 (Nat.le_refl _) rfl

theorem same_drawn {w w' : World} (h : Same w w') : Same w w' := h

/-- In a new row; the elder one stays. -/
theorem app_grow (hT : AppT P ts el size i zv) {n : Nat} {l old : List V} (hN : NewsOK P H size (pgetA x e) n l) {H' : Heap} {bl : Blk} (hNew : NewTo H bl H') {base : Nat} {w0 : World} {rho : Nat → Option Nat} {w : World} {cx : Value} (hp : PR P base w0 rho H w) (vx : VR (mu rho H w) (pgetA x e) cx)
    {ba : Option Addr} {sLen sCap : Nat} (hold : ∀ w1 : World, w1.heap = w.heap → PR P base w0 rho H w1 → ∃ oc : List Value, (Builtin.firstCells size sLen (.slice ba sLen sCap)).run P w1 = .ok oc.toArray w1 ∧ VRs (mu rho H w) old oc) (hol : old.length = sLen * size) (hlt : sCap < sLen + n) (hb : sLen + n ≤ 1073741824)
    (hrow : ∀ oc nc, VRs (mu rho H w) old oc → VRs (mu rho H w) l nc → rowOf bl = some (old ++ l) ∧ (∀ len m, bl = .bytes len m → m < 256 ^ len) ∧ (∀ v ∈ old ++ l, v.one = true)) {ot : TypeId} :
    ∃ cv w', (Builtin.append_ ts ot #[.slice ba sLen sCap, cx]).run P w = .ok cv w' ∧ Left P base w0 rho H w (.slice H.n 0 (sLen + n) 0 size) H' cv w' := by
  have hlen := hN.1 _ _ vx w
  have hpd := hp.drawn (w.drawn + 1)
  obtain ⟨oc, h1, h2⟩ := hold { w with drawn := w.drawn + 1 } rfl hpd
  obtain ⟨hll, h3⟩ := hN.2 hpd vx
  obtain ⟨nc, h4, h5⟩ := h3 n (Nat.le_refl _)
  rw [List.take_of_length_le (by omega)] at h5
  obtain ⟨cap, w', rest, g1, g10, g2, g3, g4⟩ := run_append_grow hT hlen hlt hb h1 h4 (ot := ot)
  obtain ⟨r1, r2, r3⟩ := hrow oc nc h2 h5
  have hR : RowR (mu rho H w) (old ++ l) (oc.toArray ++ nc.toArray ++ rest) (0, 0) := by
    refine ⟨fun j v hj => ⟨r3 v (List.mem_of_getElem? hj), ?_⟩, fun j _ => by simp⟩
    obtain ⟨c, h6, h7⟩ := (h2.append h5).get hj
    have hjl : j < (oc ++ nc).length := by
      rcases Nat.lt_or_ge j (oc ++ nc).length with h | h
      · exact h
      · rw [List.getElem?_eq_none h] at h6; cases h6
    refine ⟨c, ?_, h7⟩
    rw [Array.getElem?_append_left (by simpa using hjl)]
    simpa using h6
  obtain ⟨rho', p1, p2, p3⟩ := hp.fresh (w' := w') hNew r1 r2 hR g3 g4
  exact ⟨_, w', g2, rho', by simp only [VR]; exact ⟨_, _, _, rfl, p3, g1.1, ⟨fun q hq => absurd hq (by omega), fun _ => Or.inr ⟨⟨_, _, _, by rw [g4, Array.getElem?_push_size], by
    have e1 := h2.length
    have e2 := h5.length
    simp only [Array.size_append, List.size_toArray, e1, e2, hol, hll, g10, Nat.zero_add]
    rw [← Nat.add_mul, ← Nat.add_mul]
    congr 1
    omega⟩, g1.2⟩⟩, Or.inl rfl⟩, p1, p2⟩

/-- In place, the capacity known. -/
theorem app_in (hT : AppT P ts el size i zv) {n : Nat} {l : List V} (hN : NewsOK P H size (pgetA x e) n l) (hn0 : 0 < n) {b off len q sz : Nat} (hle : len + n ≤ q) {base : Nat} {w0 : World} {rho : Nat → Option Nat} {w : World} {cs cx : Value} (hp : PR P base w0 rho H w) (vs : VR (mu rho H w) (.slice b off len (q + 1) sz) cs) (vx : VR (mu rho H w) (pgetA x e) cx)
    {H' : Heap} (hone : ∀ v ∈ l, v.one = true)
    (hst : ∀ {base : Nat} {w0 w : World} {rho : Nat → Option Nat} {c : Nat} {ms : List Value}, PR P base w0 rho H w → (mu rho H w).b b c → (∀ v ∈ l, v.one = true) → VRs (mu rho H w) l ms → ∃ w', (storeCells ⟨c, off + len * size, none⟩ ms 0).run P w = .ok () w' ∧ PR P base w0 rho H' w' ∧ Ext rho H w rho H' w') {ot : TypeId} :
    ∃ cv w', (Builtin.append_ ts ot #[cs, cx]).run P w = .ok cv w' ∧ Left P base w0 rho H w (.slice b off (len + n) (q + 1) sz) H' cv w' := by
  have hlen := hN.1 _ _ vx w
  obtain ⟨hll, h3⟩ := hN.2 hp vx
  obtain ⟨nc, h4, h5⟩ := h3 n (Nat.le_refl _)
  rw [List.take_of_length_le (by omega)] at h5
  simp only [VR] at vs
  obtain ⟨c, cap, o', rfl, hm, hlc, hcp, ho'⟩ := vs
  have := hcp.1 q rfl
  subst this
  have ho : o' = off := by
    rcases ho' with h | h
    · exact h
    · omega
  subst ho
  obtain ⟨w', g1, g2, g3⟩ := hst hp hm hone h5
  refine ⟨_, w', run_append_in hT (base := some ⟨c, o', none⟩) hlen h4 hle (by show (storeCells (Addr.add ⟨c, o', none⟩ (len * size)) nc).run P w = _; rw [Addr.add_lit]; exact g1), rho, ?_, g2, g3⟩
  simp only [VR]
  exact ⟨c, cap, o', rfl, g3.mu.1 _ _ hm, hle, ⟨hcp.1, fun h => absurd h (by omega)⟩, Or.inl rfl⟩

/-- Where the capacity is not known: the row grows where it lies, or moves. -/
theorem app_move (hT : AppT P ts el size i zv) (hs0 : 0 < size) {n : Nat} {l row : List V} (hN : NewsOK P H size (pgetA x e) n l) (hn0 : 0 < n) {b len : Nat} (hrow : rowOf (H.get b) = some row) (hrl : row.length = len * size) (hb : len + n ≤ 1073741824)
    {H' : Heap} {bl : Blk} (h1 : H'.n = H.n + 1) (h2 : H'.wlo ≤ H.wlo) (h3 : H'.wlo ≤ b) (h4 : H'.get b = .dead) (h5 : H'.get H.n = bl) (h6 : ∀ j, j ≠ b → j ≠ H.n → H'.get j = H.get j)
    {base : Nat} {w0 : World} {rho : Nat → Option Nat} {w : World} {cs cx : Value} (hp : PR P base w0 rho H w) (vs : VR (mu rho H w) (.slice b 0 len 0 size) cs) (vx : VR (mu rho H w) (pgetA x e) cx)
    (hbl : ∀ oc nc, VRs (mu rho H w) row oc → VRs (mu rho H w) l nc → rowOf bl = some (row ++ l) ∧ (∀ len m, bl = .bytes len m → m < 256 ^ len) ∧ (∀ v ∈ row ++ l, v.one = true)) (hkd : ∀ q, bl = .cells q → ∃ q', H.get b = .cells q') {ot : TypeId} :
    ∃ cv w', (Builtin.append_ ts ot #[cs, cx]).run P w = .ok cv w' ∧ Left P base w0 rho H w (.slice H.n 0 (len + n) 0 size) H' cv w' := by
  have hlen := hN.1 _ _ vx w
  simp only [VR] at vs
  obtain ⟨c, cap, o', rfl, hm, hlc, hcp, ho'⟩ := vs
  have hr := hp.rho_of hm hrow
  obtain ⟨cur, elc, fr, k1, k2⟩ := hp.row hr hrow
  have hnm := (rowOf_alive hrow).2
  by_cases hle : len + n ≤ cap
  · -- in place
    have ho : o' = 0 := by
      rcases ho' with h | h
      · exact h
      · omega
    subst ho
    obtain ⟨hll, h8⟩ := hN.2 hp vx
    obtain ⟨nc, g4, g5⟩ := h8 n (Nat.le_refl _)
    rw [List.take_of_length_le (by omega)] at g5
    have hrv := k2.vrs (o := 0) (n := row.length) (by omega)
    rw [List.drop_zero, List.take_length] at hrv
    obtain ⟨r1, r2, r3⟩ := hbl _ nc hrv g5
    have hcapb : cap < 9223372036854775808 := by
      rcases hcp.2 trivial with h | ⟨_, h⟩
      · omega
      · exact h
    have hz : cur.size = cap * size := by
      rcases hcp.2 trivial with h | ⟨⟨cs2, e2, fr2, h, h'⟩, _⟩
      · omega
      · rw [k1] at h; cases h; omega
    have hncl := g5.length
    have hsum : len * size + n * size ≤ cap * size := by rw [← Nat.add_mul]; exact Nat.mul_le_mul_right _ hle
    obtain ⟨w', cur', q1, q2, q3, q4, q5, q6, q7⟩ := run_storeCells (P := P) (o := len * size) nc 0 cur w k1 (by omega) (vrs_one g5 fun v hv => r3 v (List.mem_append_right _ hv)) k2.2
    have hR : RowR (mu rho H w) (row ++ l) cur' fr := by
      refine ⟨fun j v hj => ⟨r3 v (List.mem_of_getElem? hj), ?_⟩, by rw [q3]; exact k2.2⟩
      rw [q4]
      by_cases hj1 : j < row.length
      · rw [List.getElem?_append_left hj1] at hj
        rw [if_neg (by omega)]
        exact (k2.1 j v hj).2
      · rw [List.getElem?_append_right (by omega)] at hj
        obtain ⟨cv, t1, t2⟩ := g5.get hj
        have hjl : j - row.length < nc.length := by
          rcases Nat.lt_or_ge (j - row.length) nc.length with h | h
          · exact h
          · rw [List.getElem?_eq_none h] at t1; cases t1
        rw [if_pos (by omega), show j - (len * size + 0) = j - row.length by omega]
        exact ⟨cv, t1, t2⟩
    obtain ⟨p1, p2⟩ := hp.move (w' := w') (c' := c) (o := .cells cur' elc fr) hr hnm h1 h2 h3 h4 h5 h6 (rowOf_alive r1).1 q7 (by omega) (Or.inl rfl) (by have := (hp.dom b c hr).2.2.1; omega) q2 (fun j _ hj => q5 j hj) (BR_of_row r1 r2 hR fun q hq => by obtain ⟨q', hq'⟩ := hkd q hq; rw [q3]; exact hp.nstr hr hq' k1) (fun cs2 e2 fr2 h => by rw [k1] at h; cases h; exact ⟨cur', elc, fr, q2, q3⟩)
    refine ⟨_, w', run_append_in hT (base := some ⟨c, 0, none⟩) hlen g4 hle (by show (storeCells (Addr.add ⟨c, 0, none⟩ (len * size)) nc).run P w = _; rw [Addr.add_lit, Nat.zero_add]; exact q1), _, ?_, p1, p2⟩
    simp only [VR]
    refine ⟨c, cap, 0, rfl, ⟨by rw [h1]; omega, fun _ => by simp⟩, hle, ⟨fun q hq => absurd hq (by omega), fun _ => Or.inr ⟨⟨cur', elc, fr, q2, by omega⟩, hcapb⟩⟩, Or.inl rfl⟩
  · -- it moves
    have hpd := hp.drawn (w.drawn + 1)
    obtain ⟨hll, h8⟩ := hN.2 hpd vx
    obtain ⟨nc, g4, g5⟩ := h8 n (Nat.le_refl _)
    rw [List.take_of_length_le (by omega)] at g5
    obtain ⟨oc, j1, j2⟩ := hpd.slice_cells (o' := o') (off := 0) (n := len * size) hm hrow (by omega) (by
      rcases ho' with h | h
      · exact Or.inl h
      · right
        have : len = 0 := by omega
        subst this
        omega)
    rw [List.drop_zero, List.take_of_length_le (by omega)] at j2
    obtain ⟨cap', w', rest, q1, q10, q2, q3, q4⟩ := run_append_grow hT (base := some ⟨c, o', none⟩) (sLen := len) (sCap := cap) hlen (by omega) hb (by simpa [Builtin.firstCells] using j1) g4 (ot := ot)
    obtain ⟨r1, r2, r3⟩ := hbl oc nc j2 g5
    have hR : RowR (mu rho H w) (row ++ l) (oc.toArray ++ nc.toArray ++ rest) (0, 0) := by
      refine ⟨fun j v hj => ⟨r3 v (List.mem_of_getElem? hj), ?_⟩, fun j _ => by simp⟩
      obtain ⟨cv, t1, t2⟩ := (j2.append g5).get hj
      have hjl : j < (oc ++ nc).length := by
        rcases Nat.lt_or_ge j (oc ++ nc).length with h | h
        · exact h
        · rw [List.getElem?_eq_none h] at t1; cases t1
      refine ⟨cv, ?_, t2⟩
      rw [Array.getElem?_append_left (by simpa using hjl)]
      simpa using t1
    have hcw : c < w.heap.size := (hp.dom b c hr).2.2.1
    have hold : ∀ j, j < w.heap.size → w'.heap[j]? = w.heap[j]? := fun j hj => by rw [q4, Array.getElem?_push, if_neg (by omega)]
    obtain ⟨p1, p2⟩ := hp.move (w' := w') (c' := w.heap.size) (o := .cells (oc.toArray ++ nc.toArray ++ rest) el) hr hnm h1 h2 h3 h4 h5 h6 (rowOf_alive r1).1 q3 (by rw [q4]; simp) (Or.inr (Nat.le_refl _)) (by rw [q4]; simp) (by rw [q4, Array.getElem?_push_size]) (fun j hj _ => hold j hj) (BR_of_row r1 r2 hR) (fun cs2 e2 fr2 h => ⟨cs2, e2, fr2, (hold c hcw).trans h, rfl⟩)
    refine ⟨_, w', q2, _, ?_, p1, p2⟩
    simp only [VR]
    refine ⟨w.heap.size, cap', 0, rfl, ⟨by rw [h1]; omega, fun _ => by simp⟩, q1.1, ⟨fun q hq => absurd hq (by omega), fun _ => Or.inr ⟨⟨_, _, _, by rw [q4, Array.getElem?_push_size], by
      have e1 := j2.length
      have e2 := g5.length
      simp only [Array.size_append, List.size_toArray, e1, e2, hrl, hll, q10, Nat.zero_add]
      rw [← Nat.add_mul, ← Nat.add_mul]
      congr 1
      omega⟩, q1.2⟩⟩, Or.inl rfl⟩
end app

theorem s_append {as : Array Operand} {ts : Array TypeId} (hop : o.op = .call { callee := .builtin .append, args := as, argTypes := ts }) (h : evOp (compOp P nt o) id ph e H k = 1) : Good P nt o e H k := by
  simp only [compOp, hop, compBuiltin] at h
  split at h
  · rename_i s x st xt hx hts
    obtain ⟨p, q, rfl, hp', hq'⟩ := args2 hx
    split at h
    · rename_i el hel
      split at h
      · rename_i s' i hs hi
        split at h
        · rename_i hc
          simp only [Bool.and_eq_true, decide_eq_true_eq] at hc
          obtain ⟨⟨⟨hs0, hby⟩, hzl⟩, hlt⟩ := hc
          obtain ⟨zv, hT⟩ := appT_ok hts hel hs hi hby hzl hlt
          have h' : ifB (isU8 P el && s' == 1) (eAppB s x id e H k) (eAppC s' s x id e H k) = 1 := h
          rcases ifB_or h' with ⟨hu8, h1⟩ | ⟨_, h1⟩
          · -- bytes
            simp only [Bool.and_eq_true, beq_iff_eq] at hu8
            obtain ⟨_, rfl⟩ := hu8
            unfold eAppB at h1
            rw [getA_eq, getA_eq] at h1
            obtain ⟨n, y, l, h2, hN, hone, hby2⟩ := newBytes_ok (P := P) h1
            have e8 : ∀ (a k : Nat), Nat.shiftLeft a (Nat.mul 8 k) = 256 ^ k * a := fun a k => by
              show a <<< (8 * k) = _
              rw [Nat.shiftLeft_eq, Nat.pow_mul, Nat.mul_comm]
            -- old bytes and new ones
            have hjoin : ∀ (m : M) (row : List V) (rx : Nat) (oc nc : List Value) (cxv : Value), VR m (pgetA x e) cxv → (SmallB row → BytesOf row rx) → VRs m row oc → VRs m l nc → (row ++ l) = (sbytes (row.length + l.length) (rx + 256 ^ row.length * y)).map byteV ∧ rx + 256 ^ row.length * y < 256 ^ (row.length + l.length) := by
              intro m row rx oc nc cxv vx hrx hoc hnc
              obtain ⟨g1, g2⟩ := hrx hoc.small
              obtain ⟨g3, g4⟩ := hby2 m cxv vx hnc.small
              rw [sbytes_append _ _ _ _ g2, List.map_append, ← g1, ← g3]
              refine ⟨rfl, ?_⟩
              rw [Nat.pow_add]
              calc rx + 256 ^ row.length * y < 256 ^ row.length + 256 ^ row.length * y := by omega
                _ = 256 ^ row.length * (y + 1) := by rw [Nat.mul_add, Nat.mul_one, Nat.add_comm]
                _ ≤ 256 ^ row.length * 256 ^ l.length := Nat.mul_le_mul_left _ g4
            rcases vSliceN_ok h2 with ⟨b, off, len, cp, sz, hsv, h3⟩ | ⟨hsv, h3⟩
            · cases n with
              | zero => exact ⟨_, _, app_fin hop hp' hq' fun base w0 rho w cs cx hp vs vx => app_none hT hN (Or.inl ⟨b, off, len, cp, sz, hsv⟩) hp vs vx, h3⟩
              | succ n =>
                have h4 : appB id (n + 1) y b off len cp sz H k = 1 := h3
                unfold appB at h4
                rw [forceN_eq] at h4
                obtain ⟨h5, h6⟩ := ifB_no h4
                have hneed := ble_of h5
                cases cp with
                | zero =>
                  obtain ⟨h7, h8⟩ := ifB_no h6
                  obtain ⟨h9, h10⟩ := ifB_no h8
                  have e1 := beq_of h7
                  have e2 := beq_of h9
                  subst e1 e2
                  rw [hGet_eq] at h10
                  rcases bOn_ok h10 with ⟨l0, _, h11⟩ | ⟨ln, mx, hbb, h11⟩
                  · exact (no_ne h11).elim
                  obtain ⟨h12, h13⟩ := ifB_no h11
                  have e3 := beq_of h12
                  subst e3
                  rw [forceN_eq] at h13
                  obtain ⟨H1, h14, h15⟩ := hSet_ok h13
                  obtain ⟨H2, h16, h17⟩ := hNew_ok h14
                  rw [h15.n] at h16
                  have hbn := h15.lt
                  refine ⟨_, _, app_fin hop hp' hq' fun base w0 rho w cs cx hp vs vx => ?_, h16⟩
                  rw [hsv] at vs
                  have hrow : rowOf (H.get b) = some ((sbytes ln mx).map byteV) := by rw [hbb]; rfl
                  refine app_move (bl := .bytes (Nat.add ln (n + 1)) (Nat.add mx (Nat.shiftLeft y (Nat.mul 8 ln)))) hT (by omega) hN (by omega) hrow (by simp [sbytes_length]) hneed (by rw [h17.n, h15.n]) (by rw [h17.wlo]; exact h15.wlo) (by rw [h17.wlo]; exact h15.wb) (by rw [h17.oth b (by rw [h15.n]; omega)]; exact h15.get) (by rw [← h15.n]; exact h17.get) (fun j hj1 hj2 => by rw [h17.oth j (by rw [h15.n]; exact hj2)]; exact h15.oth j hj1) hp vs vx (hkd := fun _ e => nomatch e) fun oc nc hoc hnc => ?_
                  have hcan : mx < 256 ^ ln := by
                    have hmu : ∃ c, (mu rho H w).b b c := by simp only [VR] at vs; obtain ⟨c, _, _, _, hm, _⟩ := vs; exact ⟨c, hm⟩
                    obtain ⟨c, hm⟩ := hmu
                    obtain ⟨ob, _, q2⟩ := hp.blk b c (hp.rho_of hm hrow)
                    rw [hbb] at q2
                    obtain ⟨_, _, _, _, ⟨hx, _⟩, _⟩ := q2
                    exact hx
                  obtain ⟨g1, g2⟩ := hjoin _ ((sbytes ln mx).map byteV) mx oc nc cx vx (fun _ => ⟨by simp [sbytes_length], by simpa [sbytes_length] using hcan⟩) hoc hnc
                  have hll := (hN.2 hp vx).1
                  simp only [List.length_map, sbytes_length] at g1 g2
                  rw [hll, Nat.mul_one] at g1 g2
                  have e9 : Nat.add mx (Nat.shiftLeft y (Nat.mul 8 ln)) = mx + 256 ^ ln * y := by rw [e8]; rfl
                  refine ⟨by rw [e9]; simp only [rowOf]; rw [g1]; rfl, fun ln' m' e => by cases e; rw [e9]; exact g2, fun v hv => ?_⟩
                  rcases List.mem_append.1 hv with hv | hv
                  · obtain ⟨yy, _, rfl⟩ := List.mem_map.1 hv; rfl
                  · exact hone v hv
                | succ qq =>
                  have h7 : ifB (Nat.ble (Nat.add len (n + 1)) qq) (no _) (loadB id H b off len fun m => forceN (Nat.add m (Nat.shiftLeft y (Nat.mul 8 len))) fun m' => hNew H (.bytes (Nat.add len (n + 1)) m') fun b' H => k (.slice b' 0 (Nat.add len (n + 1)) 0 1) H) = 1 := h6
                  rcases ifB_or h7 with ⟨_, h8⟩ | ⟨h8, h9⟩
                  · exact (no_ne h8).elim
                  have hq : qq < len + (n + 1) := by
                    rcases Nat.lt_or_ge qq (len + (n + 1)) with h | h
                    · exact h
                    · have : Nat.ble (Nat.add len (n + 1)) qq = true := Nat.ble_eq_true_of_le h
                      rw [this] at h8; cases h8
                  obtain ⟨row, rx, h10, h11, h12, h13, h14⟩ := loadB_ok h9
                  rw [forceN_eq] at h12
                  obtain ⟨H', h15, h16⟩ := hNew_ok h12
                  refine ⟨_, _, app_fin hop hp' hq' fun base w0 rho w cs cx hp vs vx => ?_, h15⟩
                  rw [hsv] at vs
                  simp only [VR] at vs
                  obtain ⟨c, cap, o', rfl, hm, hlc, hcp, ho'⟩ := vs
                  have hcq := hcp.1 qq rfl
                  subst hcq
                  have hrl : ((row.drop off).take len).length = len := by simp; omega
                  refine app_grow hT hN h16 hp vx (old := (row.drop off).take len) (fun w1 hw1 hp1 => ?_) (by rw [hrl, Nat.mul_one]) hq hneed (fun oc nc hoc hnc => ?_)
                  · obtain ⟨oc, g1, g2⟩ := hp1.slice_cells (o' := o') (off := off) (n := len) hm h10 h11 (by
                      rcases ho' with h | h
                      · exact Or.inl h
                      · right; omega)
                    exact ⟨oc, by simpa [Builtin.firstCells] using g1, by rw [show mu rho H w = mu rho H w1 by unfold mu; rw [hw1]]; exact g2⟩
                  · obtain ⟨g1, g2⟩ := hjoin _ ((row.drop off).take len) rx oc nc cx vx h14 hoc hnc
                    have hll := (hN.2 hp vx).1
                    rw [hrl, hll, Nat.mul_one] at g1 g2
                    have e9 : Nat.add rx (Nat.shiftLeft y (Nat.mul 8 len)) = rx + 256 ^ len * y := by rw [e8]; rfl
                    refine ⟨by rw [e9]; simp only [rowOf]; rw [g1]; rfl, fun ln' m' e => by cases e; rw [e9]; exact g2, fun v hv => ?_⟩
                    rcases List.mem_append.1 hv with hv | hv
                    · obtain ⟨yy, rfl⟩ := h13 v hv; rfl
                    · exact hone v hv
            · cases n with
              | zero => exact ⟨_, _, app_fin hop hp' hq' fun base w0 rho w cs cx hp vs vx => app_none hT hN (Or.inr hsv) hp vs vx, h3⟩
              | succ n =>
                have h4 : ifB (Nat.ble (n + 1) 1073741824) (hNew H (.bytes (n + 1) y) fun b' H => k (.slice b' 0 (n + 1) 0 1) H) (no _) = 1 := h3
                obtain ⟨h5, h6⟩ := ifB_no h4
                have hneed := ble_of h5
                obtain ⟨H', h7, h8⟩ := hNew_ok h6
                refine ⟨_, _, app_fin hop hp' hq' fun base w0 rho w cs cx hp vs vx => ?_, h7⟩
                rw [hsv] at vs
                simp only [VR] at vs
                subst vs
                have := app_grow (ba := none) (sLen := 0) (sCap := 0) (ot := o.type) hT hN h8 hp vx (old := []) (fun w1 hw1 hp1 => ⟨[], rfl, by simp only [VRs]⟩) (by simp) (by omega) (by omega) (fun oc nc hoc hnc => by
                  obtain ⟨g1, g2⟩ := hjoin _ [] 0 oc nc cx vx (fun _ => ⟨rfl, by simp⟩) hoc hnc
                  have hll := (hN.2 hp vx).1
                  simp only [List.length_nil, Nat.zero_add, Nat.pow_zero, Nat.one_mul, hll, Nat.mul_one] at g1 g2
                  refine ⟨by simp only [rowOf]; rw [g1], fun ln' m' e => by cases e; exact g2, fun v hv => hone v (by simpa using hv)⟩)
                rw [Nat.zero_add] at this
                exact this
          · -- cells
            unfold eAppC at h1
            rw [getA_eq, getA_eq] at h1
            obtain ⟨n, l, h2, hN⟩ := newCells_ok (P := P) h1
            rcases vSliceN_ok h2 with ⟨b, off, len, cp, sz, hsv, h3⟩ | ⟨hsv, h3⟩
            · cases n with
              | zero => exact ⟨_, _, app_fin hop hp' hq' fun base w0 rho w cs cx hp vs vx => app_none hT hN (Or.inl ⟨b, off, len, cp, sz, hsv⟩) hp vs vx, h3⟩
              | succ n =>
                have h4 : appC id s' (n + 1) l b off len cp sz H k = 1 := h3
                unfold appC at h4
                obtain ⟨hone, h4⟩ := allOne_ok h4
                rw [forceN_eq] at h4
                obtain ⟨h5, h6⟩ := ifB_no h4
                have hneed := ble_of h5
                cases cp with
                | zero =>
                  obtain ⟨h7, h8⟩ := ifB_no h6
                  obtain ⟨h9, h10⟩ := ifB_no h8
                  have e1 := beq_of h7
                  have e2 := beq_of h9
                  subst e1 e2
                  rw [hGet_eq] at h10
                  rcases bOn_ok h10 with ⟨l0, hbb, h11⟩ | ⟨ln, mx, _, h11⟩
                  · obtain ⟨h12, h13⟩ := ifB_no h11
                    have e3 := beq_of h12
                    rw [lenL_eq] at e3
                    rw [appL_eq] at h13
                    obtain ⟨H1, h14, h15⟩ := hSet_ok h13
                    obtain ⟨H2, h16, h17⟩ := hNew_ok h14
                    rw [h15.n] at h16
                    have hbn := h15.lt
                    refine ⟨_, _, app_fin hop hp' hq' fun base w0 rho w cs cx hp vs vx => ?_, h16⟩
                    rw [hsv] at vs
                    have hrow : rowOf (H.get b) = some l0 := by rw [hbb]; rfl
                    refine app_move (bl := .cells (l0 ++ l)) hT hs0 hN (by omega) hrow e3 hneed (by rw [h17.n, h15.n]) (by rw [h17.wlo]; exact h15.wlo) (by rw [h17.wlo]; exact h15.wb) (by rw [h17.oth b (by rw [h15.n]; omega)]; exact h15.get) (by rw [← h15.n]; exact h17.get) (fun j hj1 hj2 => by rw [h17.oth j (by rw [h15.n]; exact hj2)]; exact h15.oth j hj1) hp vs vx (hkd := fun _ _ => ⟨_, hbb⟩) fun oc nc hoc hnc => ⟨rfl, (fun _ _ e => nomatch e), fun v hv => ?_⟩
                    rcases List.mem_append.1 hv with hv | hv
                    · have hmu : ∃ c, (mu rho H w).b b c := by simp only [VR] at vs; obtain ⟨c, _, _, _, hm, _⟩ := vs; exact ⟨c, hm⟩
                      obtain ⟨c, hm⟩ := hmu
                      obtain ⟨_, _, _, _, q2⟩ := hp.row (hp.rho_of hm hrow) hrow
                      obtain ⟨j, hj⟩ := List.getElem?_of_mem hv
                      exact (q2.1 j v hj).1
                    · exact hone v hv
                  · exact (no_ne h11).elim
                | succ qq =>
                  have h7 : ifB (Nat.ble (Nat.add len (n + 1)) qq) (storeN id H b (Nat.add off (Nat.mul len s')) l fun H => k (.slice b off (Nat.add len (n + 1)) (qq + 1) sz) H) (loadN id H b off (Nat.mul len s') fun l0 => allOne id l0 (appL l0 l fun l' => hNew H (.cells l') fun b' H => k (.slice b' 0 (Nat.add len (n + 1)) 0 s') H)) = 1 := h6
                  rcases ifB_or h7 with ⟨h8, h9⟩ | ⟨h8, h9⟩
                  · obtain ⟨H', h10, h11⟩ := storeN_pure (P := P) h9
                    refine ⟨_, _, app_fin hop hp' hq' fun base w0 rho w cs cx hp vs vx => ?_, h10⟩
                    rw [hsv] at vs
                    exact app_in hT hN (by omega) (ble_of h8) hp vs vx hone h11
                  · have hq : qq < len + (n + 1) := by
                      rcases Nat.lt_or_ge qq (len + (n + 1)) with h | h
                      · exact h
                      · have : Nat.ble (Nat.add len (n + 1)) qq = true := Nat.ble_eq_true_of_le h
                        rw [this] at h8; cases h8
                    obtain ⟨row, h10, h11, h12⟩ := loadN_ok h9
                    obtain ⟨hone2, h13⟩ := allOne_ok h12
                    rw [appL_eq] at h13
                    obtain ⟨H', h15, h16⟩ := hNew_ok h13
                    refine ⟨_, _, app_fin hop hp' hq' fun base w0 rho w cs cx hp vs vx => ?_, h15⟩
                    rw [hsv] at vs
                    simp only [VR] at vs
                    obtain ⟨c, cap, o', rfl, hm, hlc, hcp, ho'⟩ := vs
                    have hcq := hcp.1 qq rfl
                    subst hcq
                    have h11' : off + len * s' ≤ row.length := h11
                    refine app_grow hT hN h16 hp vx (old := (row.drop off).take (len * s')) (fun w1 hw1 hp1 => ?_) (by rw [List.length_take, List.length_drop]; exact Nat.min_eq_left (by omega)) hq hneed (fun oc nc hoc hnc => ⟨rfl, (fun _ _ e => nomatch e), fun v hv => ?_⟩)
                    · obtain ⟨oc, g1, g2⟩ := hp1.slice_cells (o' := o') (off := off) (n := len * s') hm h10 h11' (by
                        rcases ho' with h | h
                        · exact Or.inl h
                        · right; have : len = 0 := by omega
                          subst this; omega)
                      exact ⟨oc, by simpa [Builtin.firstCells] using g1, by rw [show mu rho H w = mu rho H w1 by unfold mu; rw [hw1]]; exact g2⟩
                    · rcases List.mem_append.1 hv with hv | hv
                      · exact hone2 v hv
                      · exact hone v hv
            · cases n with
              | zero => exact ⟨_, _, app_fin hop hp' hq' fun base w0 rho w cs cx hp vs vx => app_none hT hN (Or.inr hsv) hp vs vx, h3⟩
              | succ n =>
                have h4 : allOne id l (ifB (Nat.ble (n + 1) 1073741824) (hNew H (.cells l) fun b' H => k (.slice b' 0 (n + 1) 0 s') H) (no _)) = 1 := h3
                obtain ⟨hone, h4⟩ := allOne_ok h4
                obtain ⟨h5, h6⟩ := ifB_no h4
                have hneed := ble_of h5
                obtain ⟨H', h7, h8⟩ := hNew_ok h6
                refine ⟨_, _, app_fin hop hp' hq' fun base w0 rho w cs cx hp vs vx => ?_, h7⟩
                rw [hsv] at vs
                simp only [VR] at vs
                subst vs
                have := app_grow (ba := none) (sLen := 0) (sCap := 0) (ot := o.type) hT hN h8 hp vx (old := []) (fun w1 hw1 hp1 => ⟨[], rfl, by simp only [VRs]⟩) (by simp) (by omega) (by omega) (fun oc nc hoc hnc => ⟨rfl, (fun _ _ e => nomatch e), fun v hv => hone v (by simpa using hv)⟩)
                rw [Nat.zero_add] at this
                exact this
        · exact (no_ne h).elim
      · exact (no_ne h).elim
    · exact (no_ne h).elim
  · exact (no_ne h).elim
end
end Go.Ev
