/- OPERATIONS THAT TOUCH NO MEMORY, on. -/
import Derived.Test.YtaodjhgfhdncgaaGreatDoorEv10
set_option linter.unusedSectionVars false
set_option linter.unusedVariables false
set_option linter.unusedSimpArgs false
namespace Go.Ev
open Go.RowKit

section
variable {P : Program} {nt : Nat} {o : Oper} {id : Nat} {ph : Phi} {e : Env} {H : Heap} {k : K}

theorem s_unOp {op : UnOp} {xt : TypeId} {x : Operand} (hop : o.op = .unOp op xt x) (h : evOp (compOp P nt o) id ph e H k = 1) : Good P nt o e H k := by
  simp only [compOp, hop] at h
  have mem : x ∈ o.op.operands := by simp [hop, Op.operands]
  have hnd : ∀ c, o.op ≠ .defer c := by simp [hop]
  split at h
  · -- not
    rename_i x' hx
    have h' : eLnot x' id ph e H k = 1 := h
    unfold eLnot at h'
    rw [getA_eq] at h'
    obtain ⟨b, hb, h1⟩ := vBool_ok h'
    have h2 : k (.bool (!b)) H = 1 := by
      rcases ifB_or h1 with ⟨h2, h3⟩ | ⟨h2, h3⟩ <;> subst h2 <;> exact h3
    refine ⟨_, _, OpS.of_pure hnd fun m w ac ho => ?_, h2⟩
    have v := ho x mem x' hx
    rw [hb] at v
    simp only [VR] at v
    exact ⟨.bool (!b), by simp [execOp, hop, v, Op.unary], by simp only [VR]⟩
  · -- minus
    rename_i x' hx
    split at h
    · rename_i kx hk
      have h' : eBin (kOf kx) (kOf kx) (.sub (2 ^ kx.bits)) (.c (.int (kOf kx) 0)) x' id ph e H k = 1 := h
      obtain ⟨a, b, ha, hb, h1⟩ := eBin_ok h'
      simp only [pgetA, V.int.injEq, true_and] at ha
      subst ha
      obtain ⟨r, h2, h3⟩ := bf_ok (P := P) (t := xt) (op := .sub) (k := kx) (ky := kx) rfl (Or.inl ⟨rfl, rfl⟩) h1
      refine ⟨_, _, OpS.of_pure hnd fun m w ac ho => ?_, h2⟩
      have v := ho x mem x' hx
      rw [hb] at v
      simp only [VR, kKind_kOf] at v
      obtain ⟨h4, h5⟩ := h3 (kMod_pos kx) v.2.1
      have h6 := h5 w
      rw [toI_small kx 0 (by cases kx <;> decide)] at h6
      simp only [binOp, ne_eq, not_true_eq_false, if_false] at h6
      exact ⟨.int kx (toI kx r), by simp only [execOp, hop, v.1, Op.unary, Sem.run_bind]; rw [show (0 : Int) = ((0 : Nat) : Int) from rfl, h6]; rfl, by simp only [VR, kKind_kOf]; exact ⟨trivial, h4, kOf_lt kx⟩⟩
    · exact (no_ne h).elim
  · -- complement
    rename_i x' hx
    split at h
    · rename_i kx hk
      have h' : eBin (kOf kx) (kOf kx) .bxor (.c (.int (kOf kx) (2 ^ kx.bits - 1))) x' id ph e H k = 1 := h
      obtain ⟨a, b, ha, hb, h1⟩ := eBin_ok h'
      simp only [pgetA, V.int.injEq, true_and] at ha
      subst ha
      obtain ⟨r, h2, h3⟩ := bf_ok (P := P) (t := xt) (op := .xor) (k := kx) (ky := kx) rfl (Or.inl ⟨rfl, rfl⟩) h1
      refine ⟨_, _, OpS.of_pure hnd fun m w ac ho => ?_, h2⟩
      have v := ho x mem x' hx
      rw [hb] at v
      simp only [VR, kKind_kOf] at v
      obtain ⟨h4, h5⟩ := h3 (by cases kx <;> decide) v.2.1
      have h6 := h5 w
      have h7 : toI kx (2 ^ kx.bits - 1) = if kx.signed then -1 else kx.max := by cases kx <;> decide
      rw [h7] at h6
      simp only [binOp, ne_eq, not_true_eq_false, if_false] at h6
      exact ⟨.int kx (toI kx r), by simp only [execOp, hop, v.1, Op.unary, Sem.run_bind]; rw [h6]; rfl, by simp only [VR, kKind_kOf]; exact ⟨trivial, h4, kOf_lt kx⟩⟩
    · exact (no_ne h).elim
  · exact (no_ne h).elim

theorem s_makeInterface {t : TypeId} {x : Operand} (hop : o.op = .makeInterface t x) (h : evOp (compOp P nt o) id ph e H k = 1) : Good P nt o e H k := by
  simp only [compOp, hop] at h
  have mem : x ∈ o.op.operands := by simp [hop, Op.operands]
  have hnd : ∀ c, o.op ≠ .defer c := by simp [hop]
  split at h
  · exact (no_ne h).elim
  · rename_i x' d hni hx hu
    have h' : eMkI t x' id ph e H k = 1 := h
    unfold eMkI at h'
    rw [getA_eq] at h'
    refine ⟨_, _, OpS.of_pure hnd fun m w ac ho => ?_, h'⟩
    have v := ho x mem x' hx
    refine ⟨.iface t (ac.eval x), ?_, by simp only [VR]; exact ⟨_, rfl, v⟩⟩
    simp only [execOp, hop, Instr.makeInterface, Sem.run_bind, run_underlying hu, Result.andThen_ok]
    cases d <;> first | rfl | exact absurd rfl (hni _ x')
  · exact (no_ne h).elim

theorem compArgs_ok {m : M} {ac : Act} : ∀ {l : List Operand} {r : List Arg}, compArgs nt l = some r → (∀ x ∈ l, ∀ ar, compArg nt x = some ar → VR m (pgetA ar e) (ac.eval x)) → VRs m (r.map (pgetA · e)) (l.map ac.eval)
  | [], r, h, _ => by simp only [compArgs, Option.some.injEq] at h; subst h; simp only [List.map_nil, VRs]
  | x :: l, r, h, ho => by
    simp only [compArgs] at h
    split at h
    · rename_i a r' h1 h2
      cases h
      simp only [List.map_cons, VRs]
      exact ⟨_, _, rfl, ho x (List.mem_cons_self ..) a h1, compArgs_ok h2 fun y hy => ho y (List.mem_cons_of_mem _ hy)⟩
    · cases h

theorem s_makeFunc {f : FuncId} {first caps : Array Operand} (hop : o.op = .makeFunc (.func f) first caps) (h : evOp (compOp P nt o) id ph e H k = 1) : Good P nt o e H k := by
  simp only [compOp, hop] at h
  have hnd : ∀ c, o.op ≠ .defer c := by simp [hop]
  split at h
  · rename_i l hf hl
    have h' : eMkF (2 * f) l id ph e H k = 1 := h
    unfold eMkF at h'
    rw [getAs_eq] at h'
    refine ⟨_, _, OpS.of_pure hnd fun m w ac ho => ?_, h'⟩
    have hf' : first = #[] := by simpa using hf
    subst hf'
    refine ⟨.func (.func f) #[] (caps.map ac.eval), by simp [execOp, hop, Instr.makeFunc], ?_⟩
    simp only [VR]
    refine ⟨caps.map ac.eval, by simp, ?_⟩
    have := compArgs_ok (e := e) (m := m) (ac := ac) hl fun x hx => ho x (by simp [hop, Op.operands]; simpa using hx)
    simpa using this
  · rename_i q qs hf hc
    split at h
    · rename_i l hl
      have h' : eMkF (2 * f + 1) l id ph e H k = 1 := h
      unfold eMkF at h'
      rw [getAs_eq] at h'
      refine ⟨_, _, OpS.of_pure hnd fun m w ac ho => ?_, h'⟩
      have hcl : caps.toList = [] := by
        cases hct : caps.toList with
        | nil => rfl
        | cons y ys =>
          rw [hct] at hc
          simp only [compArgs] at hc
          split at hc <;> cases hc
      have hc' : caps = #[] := by simpa using hcl
      subst hc'
      refine ⟨.func (.func f) (first.map ac.eval) #[], by simp [execOp, hop, Instr.makeFunc], ?_⟩
      simp only [VR]
      refine ⟨first.map ac.eval, by simp [Nat.mul_add_div], ?_⟩
      rw [← hf] at hl
      have := compArgs_ok (e := e) (m := m) (ac := ac) hl fun x hx => ho x (by simp [hop, Op.operands]; simpa using hx)
      simpa using this
    · exact (no_ne h).elim
  · exact (no_ne h).elim

theorem s_extract {x : Operand} {i : Nat} (hop : o.op = .extract x i) (h : evOp (compOp P nt o) id ph e H k = 1) : Good P nt o e H k := by
  simp only [compOp, hop] at h
  have mem : x ∈ o.op.operands := by simp [hop, Op.operands]
  have hnd : ∀ c, o.op ≠ .defer c := by simp [hop]
  split at h
  · rename_i x' hx
    have h' : eExtr x' i id ph e H k = 1 := h
    unfold eExtr at h'
    rw [getA_eq] at h'
    obtain ⟨l, hl, h1⟩ := vTup_ok h'
    obtain ⟨v, hv, h2⟩ := nth_ok h1
    refine ⟨_, _, OpS.of_pure hnd fun m w ac ho => ?_, h2⟩
    have vx := ho x mem x' hx
    rw [hl] at vx
    simp only [VR] at vx
    obtain ⟨cs, hcs, hr⟩ := vx
    obtain ⟨c, hc, hvr⟩ := hr.get hv
    refine ⟨c, ?_, hvr⟩
    have hc' : cs[i]? = some c := by simpa using hc
    simp [execOp, hop, hcs, Instr.extract, hc']
  · exact (no_ne h).elim

theorem s_fieldAddr {t : TypeId} {x : Operand} {f : Nat} (hop : o.op = .fieldAddr t x f) (h : evOp (compOp P nt o) id ph e H k = 1) : Good P nt o e H k := by
  simp only [compOp, hop] at h
  have mem : x ∈ o.op.operands := by simp [hop, Op.operands]
  have hnd : ∀ c, o.op ≠ .defer c := by simp [hop]
  split at h
  · rename_i x' fs hx hu
    split at h
    · rename_i fd hfd
      split at h
      · rename_i n hsz
        have h' : eFadd fd.offset x' id ph e H k = 1 := h
        unfold eFadd at h'
        rw [getA_eq] at h'
        obtain ⟨b, off, hb, h1⟩ := vPtr_ok h'
        rw [forceN_eq] at h1
        refine ⟨_, _, OpS.of_pure hnd fun m w ac ho => ?_, h1⟩
        have vx := ho x mem x' hx
        rw [hb] at vx
        simp only [VR] at vx
        obtain ⟨c, hc, hm⟩ := vx
        refine ⟨.pointer (some ⟨c, off + fd.offset, none⟩), ?_, by simp only [VR]; exact ⟨c, rfl, hm⟩⟩
        simp only [szT, Option.map_eq_some_iff] at hsz
        obtain ⟨ti, hti, hsz⟩ := hsz
        have hs : (sizeOf fd.type).run P w = .ok (n + 1) w := by
          simp [sizeOf, typeInfo, hti, hsz]
        simp [execOp, hop, hc, Instr.fieldAt, run_underlying hu, hfd, Instr.sureAddr, fieldPlace, hs, Addr.add_lit]
      · exact (no_ne h).elim
    · exact (no_ne h).elim
  · exact (no_ne h).elim

theorem run_part {t : TypeId} {cs : Array Value} {off : Nat} {l : List V} {m : M} (hr : VRs m l cs.toList) {w : World} :
    (∀ n, aggT P t = some true → szT P t = some n → off + n ≤ l.length → ∃ q : Array Value, (part t cs off).run P w = .ok (.agg q) w ∧ VRs m ((l.drop off).take n) q.toList) ∧
    (∀ v, aggT P t = some false → l[off]? = some v → ∃ c, (part t cs off).run P w = .ok c w ∧ VR m v c) := by
  have hlen := hr.length
  constructor
  · intro n ha hs hle
    have hag : (isAgg t).run P w = .ok true w := by
      unfold aggT at ha
      split at ha <;> simp at ha
      all_goals (rename_i hu; simp [isAgg, run_underlying hu])
    simp only [szT, Option.map_eq_some_iff] at hs
    obtain ⟨ti, hti, hsz⟩ := hs
    have hsz' : (sizeOf t).run P w = .ok n w := by simp [sizeOf, typeInfo, hti, hsz]
    refine ⟨cs.extract off (off + n), by simp [part, hag, hsz'], ?_⟩
    refine VRs.of_get ?_ fun i v c h1 h2 => ?_
    · simp at hlen ⊢; omega
    · rw [List.getElem?_take] at h1
      split at h1
      · rename_i hi
        rw [List.getElem?_drop] at h1
        obtain ⟨c', h3, h4⟩ := hr.get h1
        rw [Array.getElem?_toList, Array.getElem?_extract] at h2
        split at h2
        · rw [Array.getElem?_toList] at h3
          rw [h3] at h2
          cases h2
          exact h4
        · cases h2
      · cases h1
  · intro v ha hv
    have hag : (isAgg t).run P w = .ok false w := by
      unfold aggT at ha
      split at ha <;> simp at ha
      rename_i d h1 h2 hu
      simp only [isAgg, Sem.run_bind, run_underlying hu, Result.andThen_ok]
      cases d <;> first | rfl | exact absurd rfl (h1 _) | exact absurd rfl (h2 _ _)
    obtain ⟨c, h3, h4⟩ := hr.get hv
    rw [Array.getElem?_toList] at h3
    exact ⟨c, by simp [part, hag, h3], h4⟩

theorem s_field {t : TypeId} {x : Operand} {f : Nat} (hop : o.op = .field t x f) (h : evOp (compOp P nt o) id ph e H k = 1) : Good P nt o e H k := by
  simp only [compOp, hop] at h
  have mem : x ∈ o.op.operands := by simp [hop, Op.operands]
  have hnd : ∀ c, o.op ≠ .defer c := by simp [hop]
  split at h
  · rename_i x' fs hx hu
    split at h
    · rename_i fd hfd
      split at h
      · rename_i n hag hsz
        have h' : eFldA fd.offset n x' id ph e H k = 1 := h
        unfold eFldA at h'
        rw [getA_eq] at h'
        obtain ⟨l, hl, h1⟩ := vAgg_ok h'
        obtain ⟨h2, h3⟩ := dropN_ok h1
        obtain ⟨h4, h5⟩ := takeN_ok h3
        refine ⟨_, _, OpS.of_pure hnd fun m w ac ho => ?_, h5⟩
        have vx := ho x mem x' hx
        rw [hl] at vx
        simp only [VR] at vx
        obtain ⟨cs, hc, hr⟩ := vx
        obtain ⟨q, hq, hqr⟩ := (run_part (P := P) (t := fd.type) (off := fd.offset) hr (w := w)).1 n hag hsz (by simp at h4; omega)
        exact ⟨.agg q, by simp [execOp, hop, hc, Instr.field, run_underlying hu, hfd, asAgg, hq], by simp only [VR]; exact ⟨q, rfl, hqr⟩⟩
      · rename_i n hag hsz
        have h' : eFld1 fd.offset x' id ph e H k = 1 := h
        unfold eFld1 at h'
        rw [getA_eq] at h'
        obtain ⟨l, hl, h1⟩ := vAgg_ok h'
        obtain ⟨v, h2, h3⟩ := nth_ok h1
        refine ⟨_, _, OpS.of_pure hnd fun m w ac ho => ?_, h3⟩
        have vx := ho x mem x' hx
        rw [hl] at vx
        simp only [VR] at vx
        obtain ⟨cs, hc, hr⟩ := vx
        obtain ⟨q, hq, hqr⟩ := (run_part (P := P) (t := fd.type) (off := fd.offset) hr (w := w)).2 v hag h2
        exact ⟨q, by simp [execOp, hop, hc, Instr.field, run_underlying hu, hfd, asAgg, hq], hqr⟩
      · exact (no_ne h).elim
    · exact (no_ne h).elim
  · exact (no_ne h).elim

/-- An index. -/
theorem idx_ok {i' : Arg} {len : Nat} {c : Nat → R} (h : idx id i' e len c = 1) : ∃ n, c n = 1 ∧ n < len ∧ ∀ (m : M) (cv : Value), VR m (pgetA i' e) cv → ∃ kd, cv = .int kd n := by
  unfold idx at h
  rw [getA_eq] at h
  obtain ⟨kd, n, hn, h1⟩ := vInt_ok h
  obtain ⟨h2, h3⟩ := ifB_no h1
  obtain ⟨h4, h5⟩ := ifB_no h3
  obtain ⟨h6, h7⟩ := ifB_no h5
  refine ⟨n, h7, blt_of h4, fun m cv hv => ?_⟩
  rw [hn] at hv
  simp only [VR] at hv
  exact ⟨kKind kd, by rw [hv.1, toI_64 (ble_of h2) hv.2.2 (blt_of h6) hv.2.1]⟩

theorem run_sizeOf' {t : TypeId} {n : Nat} (h : szT P t = some n) (w : World) : (sizeOf t).run P w = .ok n w := by
  simp only [szT, Option.map_eq_some_iff] at h
  obtain ⟨ti, hti, hsz⟩ := h
  simp [sizeOf, typeInfo, hti, hsz]

theorem s_indexAddr {t : TypeId} {x i : Operand} (hop : o.op = .indexAddr t x i) (h : evOp (compOp P nt o) id ph e H k = 1) : Good P nt o e H k := by
  simp only [compOp, hop] at h
  have mem : x ∈ o.op.operands ∧ i ∈ o.op.operands := by simp [hop, Op.operands]
  have hnd : ∀ c, o.op ≠ .defer c := by simp [hop]
  split at h
  · -- an array
    rename_i x' i' len el hx hi hu
    split at h
    · rename_i s hs
      have h' : eIxA len s x' i' id ph e H k = 1 := h
      unfold eIxA at h'
      rw [getA_eq] at h'
      obtain ⟨b, off, hb, h1⟩ := vPtr_ok h'
      obtain ⟨n, h2, h3, h4⟩ := idx_ok h1
      rw [forceN_eq] at h2
      refine ⟨_, _, OpS.of_pure hnd fun m w ac ho => ?_, h2⟩
      have vx := ho x mem.1 x' hx
      obtain ⟨kd, hki⟩ := h4 m _ (ho i mem.2 i' hi)
      rw [hb] at vx
      simp only [VR] at vx
      obtain ⟨c, hc, hm⟩ := vx
      refine ⟨.pointer (some ⟨c, off + n * s, none⟩), ?_, by simp only [VR]; exact ⟨c, rfl, hm⟩⟩
      have hlt : (0 : Int) ≤ (n : Int) ∧ (n : Int) < (len : Int) := by omega
      simp [execOp, hop, hc, hki, Instr.indexAt, asIntOf, run_underlying hu, Instr.sureAddr, run_sizeOf' hs, h3, Addr.add_lit]
    · exact (no_ne h).elim
  · -- a slice
    rename_i x' i' el hx hi hu
    split at h
    · rename_i s hs
      have h' : eIxV s x' i' id ph e H k = 1 := h
      unfold eIxV at h'
      rw [getA_eq] at h'
      obtain ⟨b, off, len, cp, sz, hb, h1⟩ := vSlice_ok h'
      obtain ⟨n, h2, h3, h4⟩ := idx_ok h1
      rw [forceN_eq] at h2
      refine ⟨_, _, OpS.of_pure hnd fun m w ac ho => ?_, h2⟩
      have vx := ho x mem.1 x' hx
      obtain ⟨kd, hki⟩ := h4 m _ (ho i mem.2 i' hi)
      rw [hb] at vx
      simp only [VR] at vx
      obtain ⟨c, cap, o', hc, hm, hle, hcp, ho'⟩ := vx
      have ho'' : o' = off := by
        rcases ho' with h | h
        · exact h
        · omega
      subst ho''
      refine ⟨.pointer (some ⟨c, o' + n * s, none⟩), ?_, by simp only [VR]; exact ⟨c, rfl, hm⟩⟩
      simp [execOp, hop, hc, hki, Instr.indexAt, asIntOf, run_underlying hu, run_sizeOf' hs, h3, Addr.add_lit]
    · exact (no_ne h).elim
  · exact (no_ne h).elim

theorem s_index {t : TypeId} {x i : Operand} (hop : o.op = .index t x i) (h : evOp (compOp P nt o) id ph e H k = 1) : Good P nt o e H k := by
  simp only [compOp, hop] at h
  have mem : x ∈ o.op.operands ∧ i ∈ o.op.operands := by simp [hop, Op.operands]
  have hnd : ∀ c, o.op ≠ .defer c := by simp [hop]
  split at h
  · -- a text
    rename_i x' i' hx hi hu
    have h' : eIxS x' i' id ph e H k = 1 := h
    unfold eIxS at h'
    rw [getA_eq] at h'
    obtain ⟨len, mm, hb, h1⟩ := vStr_ok h'
    obtain ⟨n, h2, h3, h4⟩ := idx_ok h1
    rw [forceN_eq] at h2
    refine ⟨_, _, OpS.of_pure hnd fun m w ac ho => ?_, h2⟩
    have vx := ho x mem.1 x' hx
    obtain ⟨kd, hki⟩ := h4 m _ (ho i mem.2 i' hi)
    rw [hb] at vx
    simp only [VR] at vx
    have hg := sbytes_get len mm n h3
    have e1 : Nat.land (Nat.shiftRight mm (Nat.mul 8 n)) 255 = (UInt8.ofNat (mm / 256 ^ n % 256)).toNat := by
      show (mm >>> (8 * n)) &&& 255 = _
      rw [Nat.shiftRight_eq_div_pow, Nat.pow_mul, show (255 : Nat) = 2 ^ 8 - 1 by rfl, Nat.and_two_pow_sub_one_eq_mod, toNat_byte]
    rw [e1]
    refine ⟨.int .u8 (UInt8.ofNat (mm / 256 ^ n % 256)).toNat, ?_, VR_byte m _⟩
    have hlen : (sbytes len mm).length = len := sbytes_length len mm
    have hbg : (⟨(sbytes len mm).toArray⟩ : ByteArray)[n]? = some (UInt8.ofNat (mm / 256 ^ n % 256)) := by
      have hlt : n < (⟨(sbytes len mm).toArray⟩ : ByteArray).size := by simp [ByteArray.size, hlen, h3]
      rw [getElem?_pos (⟨(sbytes len mm).toArray⟩ : ByteArray) n hlt]
      congr 1
      have : (sbytes len mm)[n]'(by omega) = UInt8.ofNat (mm / 256 ^ n % 256) := by
        rw [List.getElem?_eq_getElem (by omega)] at hg
        exact Option.some.inj hg
      rw [← this]
      rfl
    simp [execOp, hop, vx.1, hki, Instr.index, asIntOf, run_underlying hu, hbg]
  · -- an array
    rename_i x' i' len el hx hi hu
    split at h
    · rename_i s ag hs hag
      have h' : eIxG len s ag x' i' id ph e H k = 1 := h
      unfold eIxG at h'
      rw [getA_eq] at h'
      obtain ⟨l, hb, h1⟩ := vAgg_ok h'
      obtain ⟨n, h2, h3, h4⟩ := idx_ok h1
      rcases ifB_or h2 with ⟨h5, h6⟩ | ⟨h5, h6⟩
      · subst h5
        obtain ⟨h7, h8⟩ := dropN_ok h6
        obtain ⟨h9, h10⟩ := takeN_ok h8
        refine ⟨_, _, OpS.of_pure hnd fun m w ac ho => ?_, h10⟩
        have vx := ho x mem.1 x' hx
        obtain ⟨kd, hki⟩ := h4 m _ (ho i mem.2 i' hi)
        rw [hb] at vx
        simp only [VR] at vx
        obtain ⟨cs, hc, hr⟩ := vx
        have h7' : n * s ≤ l.length := h7
        obtain ⟨q, hq, hqr⟩ := (run_part (P := P) (t := el) (off := n * s) hr (w := w)).1 s hag hs (by
          have : s ≤ (l.drop (n * s)).length := h9
          simp at this; omega)
        exact ⟨.agg q, by simp [execOp, hop, hc, hki, Instr.index, asIntOf, run_underlying hu, run_sizeOf' hs, h3, hq], by simp only [VR]; exact ⟨q, rfl, hqr⟩⟩
      · subst h5
        obtain ⟨v, h7, h8⟩ := nth_ok h6
        refine ⟨_, _, OpS.of_pure hnd fun m w ac ho => ?_, h8⟩
        have vx := ho x mem.1 x' hx
        obtain ⟨kd, hki⟩ := h4 m _ (ho i mem.2 i' hi)
        rw [hb] at vx
        simp only [VR] at vx
        obtain ⟨cs, hc, hr⟩ := vx
        obtain ⟨q, hq, hqr⟩ := (run_part (P := P) (t := el) (off := n * s) hr (w := w)).2 v hag h7
        exact ⟨q, by simp [execOp, hop, hc, hki, Instr.index, asIntOf, run_underlying hu, run_sizeOf' hs, h3, hq], hqr⟩
    · exact (no_ne h).elim
  · exact (no_ne h).elim
end
end Go.Ev
