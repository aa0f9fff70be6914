/- NUMBERS: the evaluator's arithmetic in two's complement is the model's. -/
import Derived.Test.YtaodjhgfhdncgaaGreatDoorEv8
import Derived.Lib.Strings
import Derived.Laws.Strings
set_option linter.unusedSectionVars false
set_option linter.unusedVariables false
set_option linter.unusedSimpArgs false
namespace Go.Ev

theorem beq_dec (m n : Nat) : Nat.beq m n = decide (m = n) := by
  by_cases h : m = n
  · subst h; simp
  · rw [decide_eq_false h]
    cases hq : Nat.beq m n with
    | false => rfl
    | true => exact absurd (beq_of hq) h
theorem wrap_mod (k : IntKind) (x : Int) : k.wrap x % (2 ^ k.bits : Int) = x % (2 ^ k.bits : Int) := by
  cases k <;> simp only [IntKind.wrap, IntKind.bits, IntKind.signed, Bool.true_and, Bool.false_and] <;> (try split) <;> omega
theorem wrap_congr (k : IntKind) {x y : Int} (h : x % (2 ^ k.bits : Int) = y % (2 ^ k.bits : Int)) : k.wrap x = k.wrap y := by
  unfold IntKind.wrap
  rw [h]
theorem kMod_cast (k : IntKind) : ((kMod k : Nat) : Int) = 2 ^ k.bits := by unfold kMod; simp
theorem wrap_nat (k : IntKind) {x : Int} {n : Nat} (h : x % (2 ^ k.bits : Int) = (n : Int) % (2 ^ k.bits : Int)) : k.wrap x = toI k n := wrap_congr k h
theorem toI_mod (k : IntKind) (n : Nat) : toI k n % (2 ^ k.bits : Int) = (n : Int) % (2 ^ k.bits : Int) := wrap_mod k _
theorem kMod_pos (k : IntKind) : 0 < kMod k := by cases k <;> decide
theorem toI_small (k : IntKind) (n : Nat) (h : n < half k) : toI k n = n := by
  show k.wrap (n : Int) = n
  cases k <;> simp only [half, IntKind.wrap, IntKind.bits, IntKind.signed, Bool.true_and, Bool.false_and, if_true, Bool.false_eq_true, if_false] at * <;> (try split) <;> first | omega | (rename_i h2; simp at h2; omega) | (simp; omega)
theorem toI_off (k : IntKind) (n : Nat) (h : n < kMod k) : toI k n = (((n + offK k) % 2 ^ k.bits : Nat) : Int) - (offK k : Nat) := by
  show k.wrap (n : Int) = _
  unfold kMod at h
  cases k <;> simp [offK, IntKind.wrap, IntKind.bits, IntKind.signed] at * <;> (try split) <;> omega
theorem toI_inj (k : IntKind) {a b : Nat} (ha : a < kMod k) (hb : b < kMod k) (h : toI k a = toI k b) : a = b := by
  have h1 := toI_mod k a
  rw [h, toI_mod k b] at h1
  unfold kMod at ha hb
  have e1 : (a : Int) % 2 ^ k.bits = a := Int.emod_eq_of_lt (by omega) (by exact_mod_cast ha)
  have e2 : (b : Int) % 2 ^ k.bits = b := Int.emod_eq_of_lt (by omega) (by exact_mod_cast hb)
  rw [e1, e2] at h1
  omega
theorem toI_64 {n : Nat} {kd : Nat} (hk : 3 ≤ kd) (hk8 : kd < 8) (h : n < 4611686018427387904) (hm : n < kMod (kKind kd)) : toI (kKind kd) n = n := by
  refine toI_small _ _ ?_
  rcases (by omega : kd = 3 ∨ kd = 4 ∨ kd = 5 ∨ kd = 6 ∨ kd = 7) with rfl | rfl | rfl | rfl | rfl <;> simp [kKind, half, IntKind.signed, IntKind.bits, kMod] at * <;> omega

/-- A result in two's complement. -/
theorem bv_of (k : IntKind) {a : Nat} (h : a < kMod k) : BitVec.ofInt k.bits (toI k a) = BitVec.ofNat k.bits a := by
  apply BitVec.eq_of_toNat_eq
  rw [BitVec.toNat_ofInt, BitVec.toNat_ofNat]
  have := toI_mod k a
  rw [show ((2 ^ k.bits : Nat) : Int) = (2 : Int) ^ k.bits by simp, this]
  have e : (a : Int) % 2 ^ k.bits = ((a % 2 ^ k.bits : Nat) : Int) := by simp
  rw [e]
  rfl

section
variable {P : Program} {w : World}
/-- Arithmetic. -/
theorem bf_ok {t : TypeId} {op : BinOp} {k ky : IntKind} {f : BF} {id a b : Nat} {c : Nat → R} (hf : bfOf op k = some f) (hky : (isShift op = false ∧ ky = k) ∨ (isShift op = true ∧ (ky.signed = true → ky.bits = 64)))
    (h : evBF id f a b c = 1) : ∃ r, c r = 1 ∧ (a < kMod k → b < kMod ky → r < kMod k ∧ ∀ w : World, (binOp op t (.int k (toI k a)) (.int ky (toI ky b))).run P w = .ok (.int k (toI k r)) w) := by
  have hM : (0 : Int) < 2 ^ k.bits := by cases k <;> decide
  have hMn : kMod k = 2 ^ k.bits := rfl
  have hpos := kMod_pos k
  have am := toI_mod k a
  cases op <;> simp only [bfOf, Option.some.injEq, reduceCtorEq] at hf <;> subst hf
  · -- add
    rcases hky with ⟨_, rfl⟩ | ⟨hs, _⟩
    · have bm := toI_mod ky b
      have h' : forceN (Nat.mod (Nat.add a b) (2 ^ ky.bits)) c = 1 := h
      rw [forceN_eq] at h'
      refine ⟨_, h', fun ha hb => ⟨Nat.mod_lt _ hpos, fun w => ?_⟩⟩
      simp only [binOp, ne_eq, not_true_eq_false, if_false, Op.intArith, Sem.run_pure]
      congr 2
      refine wrap_nat ky ?_
      rw [Int.add_emod, am, bm, ← Int.add_emod]
      show _ = (((a + b) % 2 ^ ky.bits : Nat) : Int) % _
      simp
    · cases hs
  · -- sub
    rcases hky with ⟨_, rfl⟩ | ⟨hs, _⟩
    · have bm := toI_mod ky b
      have h' : forceN (Nat.mod (Nat.add a (Nat.sub (2 ^ ky.bits) b)) (2 ^ ky.bits)) c = 1 := h
      rw [forceN_eq] at h'
      refine ⟨_, h', fun ha hb => ⟨Nat.mod_lt _ hpos, fun w => ?_⟩⟩
      simp only [binOp, ne_eq, not_true_eq_false, if_false, Op.intArith, Sem.run_pure]
      congr 2
      refine wrap_nat ky ?_
      rw [Int.sub_emod, am, bm, ← Int.sub_emod]
      show _ = (((a + (2 ^ ky.bits - b)) % 2 ^ ky.bits : Nat) : Int) % _
      have hb' : b < 2 ^ ky.bits := hb
      rw [Int.natCast_emod, Int.natCast_add, Int.natCast_sub (Nat.le_of_lt hb')]
      simp only [Int.natCast_pow, Int.cast_ofNat_Int, Int.emod_emod_of_dvd _ (Int.dvd_refl _)]
      rw [show (a : Int) + (2 ^ ky.bits - (b : Int)) = ((a : Int) - b) + 2 ^ ky.bits by omega, Int.add_emod_right]
    · cases hs
  · -- mul
    rcases hky with ⟨_, rfl⟩ | ⟨hs, _⟩
    · have bm := toI_mod ky b
      have h' : forceN (Nat.mod (Nat.mul a b) (2 ^ ky.bits)) c = 1 := h
      rw [forceN_eq] at h'
      refine ⟨_, h', fun ha hb => ⟨Nat.mod_lt _ hpos, fun w => ?_⟩⟩
      simp only [binOp, ne_eq, not_true_eq_false, if_false, Op.intArith, Sem.run_pure]
      congr 2
      refine wrap_nat ky ?_
      rw [Int.mul_emod, am, bm, ← Int.mul_emod]
      show _ = (((a * b) % 2 ^ ky.bits : Nat) : Int) % _
      simp
    · cases hs
  · -- quo
    rcases hky with ⟨_, rfl⟩ | ⟨hs, _⟩
    · have h' : ifB (Nat.blt a (half ky)) (ifB (Nat.blt b (half ky)) (ifB (Nat.beq b 0) (no _) (forceN (Nat.div a b) c)) (no _)) (no _) = 1 := h
      obtain ⟨h1, h2⟩ := ifB_no h'
      obtain ⟨h3, h4⟩ := ifB_no h2
      rcases ifB_or h4 with ⟨_, h5⟩ | ⟨h5, h6⟩
      · exact (no_ne h5).elim
      · rw [forceN_eq] at h6
        have hb0 : b ≠ 0 := fun e => by subst e; cases h5
        have ha' := blt_of h1
        have hdv : a / b < half ky := Nat.lt_of_le_of_lt (Nat.div_le_self a b) ha'
        refine ⟨_, h6, fun ha hb => ⟨Nat.lt_of_le_of_lt (Nat.div_le_self a b) ha, fun w => ?_⟩⟩
        rw [toI_small ky a ha', toI_small ky b (blt_of h3)]
        have hz : (b : Int) ≠ 0 := by omega
        simp only [binOp, ne_eq, not_true_eq_false, if_false, Op.intDiv, hz, Sem.run_pure]
        congr 2
    · cases hs
  · -- rem
    rcases hky with ⟨_, rfl⟩ | ⟨hs, _⟩
    · have h' : ifB (Nat.blt a (half ky)) (ifB (Nat.blt b (half ky)) (ifB (Nat.beq b 0) (no _) (forceN (Nat.mod a b) c)) (no _)) (no _) = 1 := h
      obtain ⟨h1, h2⟩ := ifB_no h'
      obtain ⟨h3, h4⟩ := ifB_no h2
      rcases ifB_or h4 with ⟨_, h5⟩ | ⟨h5, h6⟩
      · exact (no_ne h5).elim
      · rw [forceN_eq] at h6
        have hb0 : b ≠ 0 := fun e => by subst e; cases h5
        have ha' := blt_of h1
        have hdv : a % b < half ky := Nat.lt_of_le_of_lt (Nat.mod_le a b) ha'
        refine ⟨_, h6, fun ha hb => ⟨Nat.lt_of_le_of_lt (Nat.mod_le a b) ha, fun w => ?_⟩⟩
        rw [toI_small ky a ha', toI_small ky b (blt_of h3)]
        have hz : (b : Int) ≠ 0 := by omega
        simp only [binOp, ne_eq, not_true_eq_false, if_false, Op.intDiv, hz, Sem.run_pure]
        congr 2
        show (a : Int).tmod (b : Int) = toI ky (a % b)
        rw [toI_small ky _ hdv]
        rfl
    · cases hs
  · -- and
    rcases hky with ⟨_, rfl⟩ | ⟨hs, _⟩
    · have h' : forceN (Nat.land a b) c = 1 := h
      rw [forceN_eq] at h'
      refine ⟨_, h', fun ha hb => ⟨Nat.lt_of_le_of_lt Nat.and_le_left ha, fun w => ?_⟩⟩
      simp only [binOp, ne_eq, not_true_eq_false, if_false, Op.intBits, bv_of ky ha, bv_of ky hb, Sem.run_pure]
      congr 2
      show ky.wrap _ = toI ky (a &&& b)
      rw [BitVec.toNat_and, BitVec.toNat_ofNat, BitVec.toNat_ofNat, Nat.mod_eq_of_lt (show a < 2 ^ ky.bits from ha), Nat.mod_eq_of_lt (show b < 2 ^ ky.bits from hb)]
      rfl
    · cases hs
  · -- or
    rcases hky with ⟨_, rfl⟩ | ⟨hs, _⟩
    · have h' : forceN (Nat.lor a b) c = 1 := h
      rw [forceN_eq] at h'
      refine ⟨_, h', fun ha hb => ⟨Nat.or_lt_two_pow (n := ky.bits) ha hb, fun w => ?_⟩⟩
      simp only [binOp, ne_eq, not_true_eq_false, if_false, Op.intBits, bv_of ky ha, bv_of ky hb, Sem.run_pure]
      congr 2
      show ky.wrap _ = toI ky (a ||| b)
      rw [BitVec.toNat_or, BitVec.toNat_ofNat, BitVec.toNat_ofNat, Nat.mod_eq_of_lt (show a < 2 ^ ky.bits from ha), Nat.mod_eq_of_lt (show b < 2 ^ ky.bits from hb)]
      rfl
    · cases hs
  · -- xor
    rcases hky with ⟨_, rfl⟩ | ⟨hs, _⟩
    · have h' : forceN (Nat.xor a b) c = 1 := h
      rw [forceN_eq] at h'
      refine ⟨_, h', fun ha hb => ⟨Nat.xor_lt_two_pow (n := ky.bits) ha hb, fun w => ?_⟩⟩
      simp only [binOp, ne_eq, not_true_eq_false, if_false, Op.intBits, bv_of ky ha, bv_of ky hb, Sem.run_pure]
      congr 2
      show ky.wrap _ = toI ky (a ^^^ b)
      rw [BitVec.toNat_xor, BitVec.toNat_ofNat, BitVec.toNat_ofNat, Nat.mod_eq_of_lt (show a < 2 ^ ky.bits from ha), Nat.mod_eq_of_lt (show b < 2 ^ ky.bits from hb)]
      rfl
    · cases hs
  · -- shl
    rcases hky with ⟨hs, _⟩ | ⟨_, hk⟩
    · cases hs
    have hbs : ∀ (hb : b < kMod ky) (hlt : b < 4611686018427387904), toI ky b = b := fun hb hlt => by
      refine toI_small _ _ ?_
      unfold half kMod at *
      split
      · rename_i hs; rw [hk hs]; omega
      · exact hb
    have hbits : k.bits ≤ 64 := by cases k <;> decide
    have h' : ifB (Nat.ble b k.bits) (forceN (Nat.mod (Nat.shiftLeft a b) (2 ^ k.bits)) c) (ifB (Nat.blt b 4611686018427387904) (c 0) (no _)) = 1 := h
    rcases ifB_or h' with ⟨h1, h2⟩ | ⟨h1, h2⟩
    · have hle := ble_of h1
      rw [forceN_eq] at h2
      refine ⟨_, h2, fun ha hb => ⟨Nat.mod_lt _ hpos, fun w => ?_⟩⟩
      have hn : ¬ ((b : Int) < 0) := by omega
      simp only [binOp, Op.shift, hbs hb (by omega), hn, if_false, Sem.run_pure, Int.toNat_natCast, Nat.min_eq_left hle]
      congr 2
      refine wrap_nat k ?_
      rw [Int.mul_emod, am, ← Int.mul_emod]
      show _ = (((a <<< b) % 2 ^ k.bits : Nat) : Int) % _
      rw [Nat.shiftLeft_eq]
      simp
    · obtain ⟨h3, h4⟩ := ifB_no h2
      have hgt : k.bits ≤ b := by
        rcases Nat.lt_or_ge k.bits b with hlt | hge
        · omega
        · rw [Nat.ble_eq_true_of_le hge] at h1; cases h1
      refine ⟨0, h4, fun ha hb => ⟨hpos, fun w => ?_⟩⟩
      have hn : ¬ ((b : Int) < 0) := by omega
      simp only [binOp, Op.shift, hbs hb (blt_of h3), hn, if_false, Sem.run_pure, Int.toNat_natCast, Nat.min_eq_right hgt]
      congr 2
      refine wrap_nat k ?_
      simp
  · -- shr
    rcases hky with ⟨hs, _⟩ | ⟨_, hk⟩
    · cases hs
    have hbs : ∀ (hb : b < kMod ky) (hlt : b < 4611686018427387904), toI ky b = b := fun hb hlt => by
      refine toI_small _ _ ?_
      unfold half kMod at *
      split
      · rename_i hs; rw [hk hs]; omega
      · exact hb
    have hbits : k.bits ≤ 64 := by cases k <;> decide
    have h' : ifB (Nat.blt a (half k)) (ifB (Nat.ble b k.bits) (forceN (Nat.shiftRight a b) c) (ifB (Nat.blt b 4611686018427387904) (c 0) (no _))) (no _) = 1 := h
    obtain ⟨h0, h0'⟩ := ifB_no h'
    have ha' := blt_of h0
    have hn : ¬ ((b : Int) < 0) := by omega
    rcases ifB_or h0' with ⟨h1, h2⟩ | ⟨h1, h2⟩
    · have hle := ble_of h1
      rw [forceN_eq] at h2
      have hsm : a >>> b ≤ a := by rw [Nat.shiftRight_eq_div_pow]; exact Nat.div_le_self _ _
      refine ⟨_, h2, fun ha hb => ⟨Nat.lt_of_le_of_lt hsm ha, fun w => ?_⟩⟩
      simp only [binOp, Op.shift, hbs hb (by omega), hn, if_false, Sem.run_pure, Int.toNat_natCast, Nat.min_eq_left hle, toI_small k a ha']
      congr 2
      show (a : Int).fdiv (2 ^ b) = toI k (a >>> b)
      rw [toI_small k _ (Nat.lt_of_le_of_lt hsm ha'), Nat.shiftRight_eq_div_pow, Int.fdiv_eq_ediv_of_nonneg _ (by exact_mod_cast Nat.zero_le (2 ^ b))]
      simp
    · obtain ⟨h3, h4⟩ := ifB_no h2
      have hgt : k.bits ≤ b := by
        rcases Nat.lt_or_ge k.bits b with hlt | hge
        · omega
        · rw [Nat.ble_eq_true_of_le hge] at h1; cases h1
      refine ⟨0, h4, fun ha hb => ⟨hpos, fun w => ?_⟩⟩
      simp only [binOp, Op.shift, hbs hb (blt_of h3), hn, if_false, Sem.run_pure, Int.toNat_natCast, Nat.min_eq_right hgt, toI_small k a ha']
      congr 2
      show (a : Int).fdiv (2 ^ k.bits) = toI k 0
      rw [toI_small k 0 (by cases k <;> decide), Int.fdiv_eq_ediv_of_nonneg _ (by exact_mod_cast Nat.zero_le (2 ^ k.bits))]
      have : (a : Int) < 2 ^ k.bits := by exact_mod_cast (show a < 2 ^ k.bits from ha)
      rw [Int.ediv_eq_zero_of_lt (by omega) this]
      rfl
  · -- andNot
    rcases hky with ⟨_, rfl⟩ | ⟨hs, _⟩
    · have h' : forceN (Nat.land a (Nat.xor b (Nat.pred (2 ^ ky.bits)))) c = 1 := h
      rw [forceN_eq] at h'
      refine ⟨_, h', fun ha hb => ⟨Nat.lt_of_le_of_lt Nat.and_le_left ha, fun w => ?_⟩⟩
      simp only [binOp, ne_eq, not_true_eq_false, if_false, Op.intBits, bv_of ky ha, bv_of ky hb, Sem.run_pure]
      congr 2
      show ky.wrap _ = toI ky (a &&& (b ^^^ (2 ^ ky.bits - 1)))
      rw [← BitVec.xor_allOnes, BitVec.toNat_and, BitVec.toNat_xor, BitVec.toNat_allOnes, BitVec.toNat_ofNat, BitVec.toNat_ofNat, Nat.mod_eq_of_lt (show a < 2 ^ ky.bits from ha), Nat.mod_eq_of_lt (show b < 2 ^ ky.bits from hb)]
      rfl
    · cases hs

/-- Comparison. -/
theorem cf_ok {t : TypeId} {op : BinOp} {k : IntKind} {f : CF} {a b : Nat} (hf : cfOf op k = some f) (ha : a < kMod k) (hb : b < kMod k) :
    (binOp op t (.int k (toI k a)) (.int k (toI k b))).run P w = .ok (.bool (evCF f a b)) w := by
  have oa := toI_off k a ha
  have ob := toI_off k b hb
  have hinj : toI k a = toI k b ↔ a = b := ⟨toI_inj k ha hb, fun e => by rw [e]⟩
  have hbeq : Nat.beq a b = decide (a = b) := by
    exact beq_dec a b
  have hblt : ∀ m n : Nat, Nat.blt m n = decide (m < n) := fun m n => by
    by_cases h : m < n
    · rw [decide_eq_true h]; exact Nat.ble_eq_true_of_le h
    · rw [decide_eq_false h]
      cases hq : Nat.blt m n with
      | false => rfl
      | true => exact absurd (blt_of hq) h
  have hble : ∀ m n : Nat, Nat.ble m n = decide (m ≤ n) := fun m n => by
    by_cases h : m ≤ n
    · rw [decide_eq_true h]; exact Nat.ble_eq_true_of_le h
    · rw [decide_eq_false h]
      cases hq : Nat.ble m n with
      | false => rfl
      | true => exact absurd (ble_of hq) h
  cases op <;> simp only [cfOf, Option.some.injEq, reduceCtorEq] at hf <;> subst hf <;> simp only [binOp, ne_eq, not_true_eq_false, if_false, Op.intCmp, Sem.run_pure]
  · congr 2
    show (toI k a == toI k b) = Nat.beq a b
    rw [hbeq]
    by_cases h : a = b <;> simp [h, hinj]
  · congr 2
    show (toI k a != toI k b) = Bool.rec true false (Nat.beq a b)
    rw [hbeq]
    by_cases h : a = b <;> simp [h, hinj]
  · congr 2
    show decide (toI k a < toI k b) = Nat.blt ((a + offK k) % 2 ^ k.bits) ((b + offK k) % 2 ^ k.bits)
    rw [hblt, oa, ob]
    congr 1
    exact propext ⟨fun h => by omega, fun h => by omega⟩
  · congr 2
    show decide (toI k a ≤ toI k b) = Nat.ble ((a + offK k) % 2 ^ k.bits) ((b + offK k) % 2 ^ k.bits)
    rw [hble, oa, ob]
    congr 1
    exact propext ⟨fun h => by omega, fun h => by omega⟩
  · congr 2
    show decide (toI k a > toI k b) = Nat.blt ((b + offK k) % 2 ^ k.bits) ((a + offK k) % 2 ^ k.bits)
    rw [hblt, oa, ob]
    congr 1
    exact propext ⟨fun h => by omega, fun h => by omega⟩
  · congr 2
    show decide (toI k a ≥ toI k b) = Nat.ble ((b + offK k) % 2 ^ k.bits) ((a + offK k) % 2 ^ k.bits)
    rw [hble, oa, ob]
    congr 1
    exact propext ⟨fun h => by omega, fun h => by omega⟩

/-- Texts. -/
theorem str_eq {l m n : Nat} (hm : m < 256 ^ l) (hn : n < 256 ^ l) : ((⟨(sbytes l m).toArray⟩ : ByteArray).toList == (⟨(sbytes l n).toArray⟩ : ByteArray).toList) = Nat.beq m n := by
  have hbeq : Nat.beq m n = decide (m = n) := by
    exact beq_dec m n
  rw [hbeq]
  by_cases h : m = n
  · subst h; simp
  · rw [decide_eq_false h]
    simp only [beq_eq_false_iff_ne, ne_eq]
    intro e
    rw [ByteArray.toList_eq, ByteArray.toList_eq] at e
    exact h (sbytes_inj hm hn (by simpa using e))
end
end Go.Ev
