/- CONVERSIONS, SLICING. -/
import Derived.Test.YtaodjhgfhdncgaaGreatDoorEv14
set_option linter.unusedSectionVars false
set_option linter.unusedVariables false
set_option linter.unusedSimpArgs false
namespace Go.Ev
open Go.RowKit

section
variable {P : Program} {nt : Nat} {o : Oper} {id : Nat} {ph : Phi} {e : Env} {H : Heap} {k : K}

theorem conv_small (k k' : IntKind) (a : Nat) (ha : a < kMod k) (hc : ¬ (k.signed = true ∧ k.bits < k'.bits)) : k'.wrap (toI k a) = toI k' (a % 2 ^ k'.bits) := by
  show k'.wrap (k.wrap (a : Int)) = k'.wrap ((a % 2 ^ k'.bits : Nat) : Int)
  apply wrap_congr
  unfold kMod at ha
  cases k <;> cases k' <;> simp [IntKind.wrap, IntKind.bits, IntKind.signed] at * <;> (try split) <;> omega
theorem conv_wide (k k' : IntKind) (a : Nat) (ha : a < kMod k) (hc : k.signed = true ∧ k.bits < k'.bits) : k'.wrap (toI k a) = toI k' (if a < 2 ^ (k.bits - 1) then a else a + (2 ^ k'.bits - 2 ^ k.bits)) ∧ (if a < 2 ^ (k.bits - 1) then a else a + (2 ^ k'.bits - 2 ^ k.bits)) < kMod k' := by
  unfold kMod at ha ⊢
  by_cases hlt : a < 2 ^ (k.bits - 1)
  · rw [if_pos hlt]
    constructor
    · show k'.wrap (k.wrap (a : Int)) = k'.wrap (a : Int)
      apply wrap_congr
      cases k <;> cases k' <;> simp [IntKind.wrap, IntKind.bits, IntKind.signed] at * <;> (try split) <;> omega
    · cases k <;> cases k' <;> simp [IntKind.bits, IntKind.signed] at * <;> omega
  · rw [if_neg hlt]
    constructor
    · show k'.wrap (k.wrap (a : Int)) = k'.wrap ((a + (2 ^ k'.bits - 2 ^ k.bits) : Nat) : Int)
      apply wrap_congr
      cases k <;> cases k' <;> simp [IntKind.wrap, IntKind.bits, IntKind.signed] at * <;> (try split) <;> omega
    · cases k <;> cases k' <;> simp [IntKind.bits, IntKind.signed] at * <;> omega

theorem push_bytes : ∀ (ns : List Int) (s : ByteArray), (ns.foldl (fun r n => r.push (UInt8.ofNat n.toNat)) s).data.toList = s.data.toList ++ ns.map fun n => UInt8.ofNat n.toNat
  | [], s => by simp
  | n :: ns, s => by rw [List.foldl_cons, push_bytes ns]; simp [ByteArray.push]

theorem vrs_bytes {m : M} : ∀ {l : List UInt8} {cs : List Value}, VRs m (l.map byteV) cs → cs = (l.map fun x => (x.toNat : Int)).map (Value.int .u8)
  | [], cs, h => by simp only [List.map_nil, VRs] at h; simpa using h
  | x :: l, cs, h => by
    simp only [List.map_cons, VRs] at h
    obtain ⟨c, r, rfl, h1, h2⟩ := h
    rw [vrs_bytes h2]
    simp only [List.map_cons]
    congr 1
    exact h1.int4.2

/-- Bytes of memory as a text. -/
theorem loadB_pure {b off n : Nat} {f : Nat → R} (h : loadB id H b off n f = 1) : ∃ x, f x = 1 ∧ ∀ {base : Nat} {w0 w : World} {rho : Nat → Option Nat} {c : Nat}, PR P base w0 rho H w → (mu rho H w).b b c →
    x < 256 ^ n ∧ (loadCells ⟨c, off, none⟩ n).run P w = .ok (((sbytes n x).map fun y => (y.toNat : Int)).map (Value.int .u8)).toArray w := by
  obtain ⟨row, x, h1, h2, h3, h4, h5⟩ := loadB_ok h
  refine ⟨x, h3, fun {base w0 w rho c} hp hm => ?_⟩
  obtain ⟨cs, g1, g2, g3⟩ := hp.cells (hp.rho_of hm h1) h1 h2
  obtain ⟨h6, h7⟩ := h5 g2.small
  have hl : ((row.drop off).take n).length = n := by simp; omega
  rw [hl] at h6 h7
  rw [h6] at g2
  refine ⟨h7, ?_⟩
  rw [g1, vrs_bytes g2]

theorem str_of_bytes (l x : Nat) : (((sbytes l x).map fun y => (y.toNat : Int)).foldl (fun r n => r.push (UInt8.ofNat n.toNat)) ByteArray.empty) = ⟨(sbytes l x).toArray⟩ := by
  apply Go.WideShapes.bytes_inj
  rw [push_bytes]
  have he : (ByteArray.empty).data.toList = [] := rfl
  rw [he, List.nil_append, List.map_map]
  conv => rhs; rw [← List.map_id (sbytes l x)]
  apply List.map_congr_left
  intro y _
  simp

theorem run_stringToBytes {t : TypeId} {s : ByteArray} {w : World} (hbig : s.size ≤ 16777216) : ∃ cap w', (s.size ≤ cap ∧ cap < 9223372036854775808) ∧ (Conv.stringToBytes t s).run P w = .ok (.slice (some ⟨w.heap.size, 0, none⟩) s.size cap) w' ∧ Same w w' ∧
    w'.heap = w.heap.push (.cells (s.data.map (fun b => Value.int .u8 b.toNat) ++ Array.replicate (cap - s.size) (Value.int .u8 0)) t (cap, cap + 1)) := by
  refine ⟨(Question.appendCap s.size 0 t).cut (w.tape w.drawn (.appendCap s.size 0 t)), ?_⟩
  have hle : s.size ≤ (Question.appendCap s.size 0 t).cut (w.tape w.drawn (.appendCap s.size 0 t)) ∧ (Question.appendCap s.size 0 t).cut (w.tape w.drawn (.appendCap s.size 0 t)) < 9223372036854775808 := by
    have hmod := Nat.mod_lt (w.tape w.drawn (.appendCap s.size 0 t)) (show 0 < 2 ^ 63 - s.size by omega)
    simp only [Question.cut]
    omega
  generalize hcap : (Question.appendCap s.size 0 t).cut (w.tape w.drawn (.appendCap s.size 0 t)) = cap at hle ⊢
  have hsz : (s.data.map (fun b => Value.int .u8 b.toNat) ++ Array.replicate (cap - s.size) (Value.int .u8 0)).size = cap := by
    simp; have : s.data.size = s.size := rfl; omega
  generalize hcs : s.data.map (fun b => Value.int .u8 b.toNat) ++ Array.replicate (cap - s.size) (Value.int .u8 0) = cs at hsz ⊢
  refine ⟨{ w with heap := w.heap.push (.cells cs t (cap, cap + 1)), drawn := w.drawn + 1 }, hle, ?_, ⟨rfl, rfl, rfl⟩, rfl⟩
  simp only [Conv.stringToBytes, Sem.run_bind, run_choose, Question.forced, Bool.false_eq_true, if_false, Result.andThen_ok, hcap, newRow, run_newObj, Sem.run_pure, markStringish, run_shape, hcs]
  have h1 : ({ w with heap := w.heap.push (.cells cs t), drawn := w.drawn + 1 } : World).shape? w.heap.size = some (t, cap) := by
    simp [World.shape?, hsz]
  have h2 : ({ w with heap := w.heap.push (.cells cs t), drawn := w.drawn + 1 } : World).freeze ⟨w.heap.size, cap, none⟩ 1 = { w with heap := w.heap.push (.cells cs t (cap, cap + 1)), drawn := w.drawn + 1 } := by
    simp only [World.freeze, Nat.one_ne_zero, if_false]
    congr 1
    apply Array.ext_getElem?
    intro i
    rw [Array.getElem?_modify]
    by_cases hi : i = w.heap.size
    · subst hi; simp
    · rw [if_neg (fun e => hi e.symm)]
      simp only [Array.getElem?_push, if_neg hi]
  simp only [h1, Result.andThen_ok, run_freeze, h2]

theorem s_convert {src dst : TypeId} {x : Operand} (hop : o.op = .convert src dst x) (h : evOp (compOp P nt o) id ph e H k = 1) : Good P nt o e H k := by
  simp only [compOp, hop] at h
  have mem : x ∈ o.op.operands := by simp [hop, Op.operands]
  have hnd : ∀ c, o.op ≠ .defer c := by simp [hop]
  split at h
  · -- integers
    rename_i x' kx kd hx hs hd
    have key : ∀ (mode c : Nat), eConvI (kOf kx) (kOf kd) mode c x' id ph e H k = 1 → (∀ a r, a < kMod kx → (if mode = 0 then a % c else if a < mode then a else a + c) = r → kd.wrap (toI kx a) = toI kd r ∧ r < kMod kd) → Good P nt o e H k := by
      intro mode c h' hr
      unfold eConvI at h'
      rw [getA_eq] at h'
      obtain ⟨k1, a, ha, h1⟩ := vInt_ok h'
      obtain ⟨h2, h3⟩ := ifB_no h1
      have := beq_of h2
      subst this
      have h4 : k (.int (kOf kd) (if mode = 0 then a % c else if a < mode then a else a + c)) H = 1 := by
        cases mode with
        | zero =>
          have h5 : forceN (Nat.mod a c) (fun r => k (.int (kOf kd) r) H) = 1 := h3
          rw [forceN_eq] at h5
          exact h5
        | succ n =>
          have h5 : ifB (Nat.blt a (n + 1)) (k (.int (kOf kd) a) H) (forceN (Nat.add a c) fun r => k (.int (kOf kd) r) H) = 1 := h3
          rw [if_neg (by omega)]
          rcases ifB_or h5 with ⟨h6, h7⟩ | ⟨h6, h7⟩
          · rw [if_pos (blt_of h6)]; exact h7
          · rw [forceN_eq] at h7
            rw [if_neg]
            · exact h7
            · intro hlt
              have : Nat.blt a (n + 1) = true := Nat.ble_eq_true_of_le hlt
              rw [this] at h6; cases h6
      refine ⟨_, _, OpS.of_pure hnd fun m w ac ho => ?_, h4⟩
      have v := ho x mem x' hx
      rw [ha] at v
      simp only [VR, kKind_kOf] at v
      obtain ⟨h5, h6⟩ := hr a _ v.2.1 rfl
      refine ⟨.int kd (kd.wrap (toI kx a)), ?_, ?_⟩
      · simp [execOp, hop, v.1, convert, run_underlying hs, run_underlying hd, Conv.intToInt]
      · rw [h5]
        simp only [VR, kKind_kOf]
        exact ⟨trivial, h6, kOf_lt kd⟩
    unfold convOp at h
    split at h
    · rename_i hc
      simp only [Bool.and_eq_true, decide_eq_true_eq] at hc
      refine key (2 ^ (kx.bits - 1)) (2 ^ kd.bits - 2 ^ kx.bits) h fun a r ha hr => ?_
      rw [if_neg (by cases kx <;> decide)] at hr
      rw [← hr]
      exact conv_wide kx kd a ha hc
    · rename_i hc
      simp only [Bool.and_eq_true, decide_eq_true_eq] at hc
      refine key 0 (2 ^ kd.bits) h fun a r ha hr => ?_
      rw [if_pos rfl] at hr
      rw [← hr]
      exact ⟨conv_small kx kd a ha hc, Nat.mod_lt _ (kMod_pos kd)⟩
  · -- bytes as a text
    rename_i x' el hx hs hd
    split at h
    · rename_i hu8
      have hel : P.underlying el = some (.int .u8) := by
        unfold isU8 at hu8
        split at hu8
        · assumption
        · cases hu8
      have h' : eConvB2S x' id ph e H k = 1 := h
      unfold eConvB2S at h'
      rw [getA_eq] at h'
      rcases vSliceN_ok h' with ⟨b, off, l, cp, sz, hb, h1⟩ | ⟨hb, h1⟩
      · obtain ⟨n, h2, h3⟩ := loadB_pure (P := P) h1
        refine ⟨_, _, OpS.of_run hnd fun base w0 rho w a hp ho => ?_, h2⟩
        have v := ho x mem x' hx
        rw [hb] at v
        simp only [VR] at v
        obtain ⟨c, cap, o', hc, hm, hle, hcp, ho'⟩ := v
        obtain ⟨h4, h5⟩ := h3 hp hm
        have h5' : (loadCells ⟨c, o', none⟩ l).run P w = .ok (((sbytes l n).map fun y => (y.toNat : Int)).map (Value.int .u8)).toArray w := by
          rcases ho' with rfl | h6
          · exact h5
          · have : l = 0 := by omega
            subst this
            rfl
        refine ⟨.string ⟨(sbytes l n).toArray⟩, w, ?_, rho, by simp only [VR]; exact ⟨trivial, h4⟩, hp, Ext.refl hp.lt⟩
        have hr := run_bytesToString (P := P) w ⟨c, o', none⟩ l cap _ h5'
        rw [str_of_bytes] at hr
        simp only [execOp, hop, hc, Sem.run_bind, run_convert_bytes_string w src dst el (some ⟨c, o', none⟩) l cap hs hel hd, hr, Result.andThen_ok, Sem.run_pure]
      · refine ⟨_, _, OpS.of_pure hnd fun m w ac ho => ?_, h1⟩
        have v := ho x mem x' hx
        rw [hb] at v
        simp only [VR] at v
        refine ⟨.string ByteArray.empty, ?_, by simp only [VR]; exact ⟨rfl, by decide⟩⟩
        simp only [execOp, hop, v, Sem.run_bind, run_convert_bytes_string w src dst el none 0 0 hs hel hd, Conv.bytesToString, Sem.run_pure, Result.andThen_ok]
    · exact (no_ne h).elim
  · -- a text as bytes
    rename_i x' el hx hs hd
    split at h
    · rename_i hu8
      have hel : P.underlying el = some (.int .u8) := by
        unfold isU8 at hu8
        split at hu8
        · assumption
        · cases hu8
      have h' : eConvS2B x' id ph e H k = 1 := h
      unfold eConvS2B at h'
      rw [getA_eq] at h'
      obtain ⟨l, n, hb, h1⟩ := vStr_ok h'
      obtain ⟨hl, h1⟩ := ifB_no h1
      obtain ⟨H', h2, h3⟩ := hNew_ok h1
      refine ⟨_, _, OpS.of_run hnd fun base w0 rho w a hp ho => ?_, h2⟩
      have v := ho x mem x' hx
      rw [hb] at v
      simp only [VR] at v
      obtain ⟨cap, w', g1, g2, g3, g4⟩ := run_stringToBytes (P := P) (t := el) (s := ⟨(sbytes l n).toArray⟩) (w := w) (by simp [ByteArray.size, sbytes_length]; exact ble_of hl)
      have hsz : (⟨(sbytes l n).toArray⟩ : ByteArray).size = l := by simp [ByteArray.size, sbytes_length]
      rw [hsz] at g1 g2 g4
      have hR : RowR (mu rho H w) ((sbytes l n).map byteV) ((⟨(sbytes l n).toArray⟩ : ByteArray).data.map (fun b => Value.int .u8 b.toNat) ++ Array.replicate (cap - l) (Value.int .u8 0)) (cap, cap + 1) := by
        refine ⟨fun i v hi => ?_, fun i hi => ?_⟩
        · rw [List.getElem?_map, Option.map_eq_some_iff] at hi
          obtain ⟨y, hy, rfl⟩ := hi
          refine ⟨rfl, .int .u8 y.toNat, ?_, VR_byte _ y⟩
          have hlt : i < l := by
            rcases Nat.lt_or_ge i l with h | h
            · exact h
            · rw [List.getElem?_eq_none (by rw [sbytes_length]; exact h)] at hy; cases hy
          rw [Array.getElem?_append_left (by simp [sbytes_length]; exact hlt)]
          simp [hy]
        · simp [sbytes_length] at hi ⊢
          omega
      obtain ⟨rho', p1, p2, p3⟩ := hp.fresh (w' := w') h3 rfl (fun ln m' e => by cases e; exact v.2) hR g3 g4
      refine ⟨.slice (some ⟨w.heap.size, 0, none⟩) l cap, w', ?_, rho', by simp only [VR]; exact ⟨_, _, _, rfl, p3, g1.1, ⟨fun q hq => absurd hq (by omega), fun _ => Or.inr ⟨⟨_, _, _, by rw [g4, Array.getElem?_push_size], by have hle : (sbytes l n).length = l := sbytes_length l n; simp [sbytes_length]; omega⟩, g1.2⟩⟩, Or.inl rfl⟩, p1, p2⟩
      simp [execOp, hop, v.1, convert, run_underlying hs, run_underlying hd, run_underlying hel, g2]
    · exact (no_ne h).elim
  · -- texts
    rename_i x' hx hs hd
    have h' : eSadd x' (.c (.str 0 0)) id ph e H k = 1 := h
    unfold eSadd at h'
    rw [getA_eq] at h'
    obtain ⟨l, n, hb, h1⟩ := vStr_ok h'
    rw [getA_eq] at h1
    obtain ⟨l2, n2, hb2, h2⟩ := vStr_ok h1
    simp only [pgetA, V.str.injEq] at hb2
    obtain ⟨rfl, rfl⟩ := hb2
    rw [forceN_eq] at h2
    obtain ⟨_, h3⟩ := ifB_no h2
    rw [forceN_eq] at h3
    have e1 : Nat.add n (Nat.shiftLeft 0 (Nat.mul 8 l)) = n := by
      show n + 0 <<< (8 * l) = n
      simp
    rw [e1] at h3
    refine ⟨_, _, OpS.of_pure hnd fun m w ac ho => ?_, h3⟩
    have v := ho x mem x' hx
    rw [hb] at v
    simp only [VR] at v
    exact ⟨ac.eval x, by simp [execOp, hop, v.1, convert, run_underlying hs, run_underlying hd], by simp only [VR]; exact v⟩
  · exact (no_ne h).elim
end
end Go.Ev
