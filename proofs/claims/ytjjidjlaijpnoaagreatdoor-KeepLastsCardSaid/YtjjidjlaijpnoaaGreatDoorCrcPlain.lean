/- CRC-32, plain: the sums by four bits and by single bits are one; one byte that is another one is found. No program in sight. -/
import Derived.WalkKit
namespace Go.Crc

def tab : List Nat := [0x00000000, 0x1db71064, 0x3b6e20c8, 0x26d930ac, 0x76dc4190, 0x6b6b51f4, 0x4db26158, 0x5005713c, 0xedb88320, 0xf00f9344, 0xd6d6a3e8, 0xcb61b38c, 0x9b64c2b0, 0x86d3d2d4, 0xa00ae278, 0xbdbdf21c]

/-- Four bits are put in. -/
def nib (n c : Nat) : Nat := (n / 16) ^^^ tab.getD ((n ^^^ c) % 16) 0
/-- A byte is. -/
def byt (n b : Nat) : Nat := nib (nib n b) (b / 16)
/-- The number behind bytes. -/
def raw (n : Nat) (l : List UInt8) : Nat := l.foldl (fun n b => byt n b.toNat) n
/-- The sum. -/
def sum (l : List UInt8) : Nat := 4294967295 - raw 4294967295 l

/-- One bit falls out. -/
def bs (n : Nat) : Nat := if n % 2 = 1 then (n / 2) ^^^ 3988292384 else n / 2
def bss (n : Nat) : Nat → Nat
  | 0 => n
  | k + 1 => bs (bss n k)

theorem tab_lt (k : Nat) : tab.getD k 0 < 4294967296 := by
  match k with
  | 0 | 1 | 2 | 3 | 4 | 5 | 6 | 7 | 8 | 9 | 10 | 11 | 12 | 13 | 14 | 15 => decide
  | k + 16 => simp [tab]

theorem xor_lt {a b : Nat} (ha : a < 4294967296) (hb : b < 4294967296) : a ^^^ b < 4294967296 := Nat.xor_lt_two_pow (n := 32) ha hb

theorem nib_lt {n : Nat} (h : n < 4294967296) (c : Nat) : nib n c < 4294967296 := xor_lt (by omega) (tab_lt _)
theorem byt_lt {n : Nat} (h : n < 4294967296) (b : Nat) : byt n b < 4294967296 := nib_lt (nib_lt h _) _
theorem raw_lt (l : List UInt8) : ∀ {n : Nat}, n < 4294967296 → raw n l < 4294967296 := by
  induction l with
  | nil => intro n h; exact h
  | cons b l ih => intro n h; exact ih (byt_lt h _)
theorem sum_lt (l : List UInt8) : sum l < 4294967296 := by unfold sum; omega

theorem raw_snoc (n : Nat) (l : List UInt8) (b : UInt8) : raw n (l ++ [b]) = byt (raw n l) b.toNat := by simp [raw]
theorem raw_append (n : Nat) (l m : List UInt8) : raw n (l ++ m) = raw (raw n l) m := by simp [raw]
theorem raw_cons (n : Nat) (b : UInt8) (l : List UInt8) : raw n (b :: l) = raw (byt n b.toNat) l := rfl

theorem xor_ones {n : Nat} (h : n < 4294967296) : 4294967295 ^^^ n = 4294967295 - n := by
  have e : 4294967295 - n = 2 ^ 32 - (n + 1) := by omega
  rw [e]
  apply Nat.eq_of_testBit_eq
  intro i
  rw [Nat.testBit_two_pow_sub_succ (by omega), Nat.testBit_xor, show (4294967295 : Nat) = 2 ^ 32 - 1 from rfl, Nat.testBit_two_pow_sub_one]
  by_cases hi : i < 32
  · simp [hi]
  · have : n.testBit i = false := Nat.testBit_lt_two_pow (Nat.lt_of_lt_of_le h (Nat.pow_le_pow_right (by decide : 0 < 2) (by omega : 32 ≤ i)))
    simp [hi, this]

/-! ### Both ways are one -/
theorem bs_lt {n : Nat} (h : n < 4294967296) : bs n < 4294967296 := by
  unfold bs; split
  · exact xor_lt (by omega) (by decide)
  · omega
theorem bss_lt {n : Nat} (h : n < 4294967296) (k : Nat) : bss n k < 4294967296 := by
  induction k with
  | zero => exact h
  | succ k ih => exact bs_lt ih

theorem xor_half (a b : Nat) : (a ^^^ b) / 2 = (a / 2) ^^^ (b / 2) := by
  have := Nat.shiftRight_xor_distrib (a := a) (b := b) (i := 1)
  simpa [Nat.shiftRight_eq_div_pow] using this
theorem xor_mod2 (a b : Nat) : (a ^^^ b) % 2 = (a % 2) ^^^ (b % 2) := Nat.xor_mod_two_pow (n := 1) (a := a) (b := b)
theorem xor_div16 (a b : Nat) : (a ^^^ b) / 16 = (a / 16) ^^^ (b / 16) := by
  have := Nat.shiftRight_xor_distrib (a := a) (b := b) (i := 4)
  simpa [Nat.shiftRight_eq_div_pow] using this
theorem xor_mod16 (a b : Nat) : (a ^^^ b) % 16 = (a % 16) ^^^ (b % 16) := Nat.xor_mod_two_pow (n := 4) (a := a) (b := b)

theorem bs_xor (a b : Nat) : bs (a ^^^ b) = bs a ^^^ bs b := by
  unfold bs
  rw [xor_half, xor_mod2]
  rcases Nat.mod_two_eq_zero_or_one a with ha | ha <;> rcases Nat.mod_two_eq_zero_or_one b with hb | hb <;> simp only [ha, hb]
  · simp
  · simp [Nat.xor_assoc]
  · simp only [if_true, show ((0 : Nat) = 1) = False by simp, if_false, Nat.xor_zero]
    rw [Nat.xor_assoc, Nat.xor_assoc, Nat.xor_comm (b / 2)]
  · simp only [Nat.xor_self, Nat.zero_ne_one, if_false, if_true]
    rw [Nat.xor_assoc, ← Nat.xor_assoc 3988292384, Nat.xor_comm 3988292384, Nat.xor_assoc, Nat.xor_self, Nat.xor_zero]
theorem bss_xor (a b k : Nat) : bss (a ^^^ b) k = bss a k ^^^ bss b k := by
  induction k with
  | zero => rfl
  | succ k ih => simp only [bss, ih, bs_xor]

theorem bs_twice (y : Nat) : bs (2 * y) = y := by unfold bs; rw [if_neg (by omega)]; omega
theorem bss4_high (y : Nat) : bss (16 * y) 4 = y := by
  show bs (bs (bs (bs (16 * y)))) = y
  rw [show 16 * y = 2 * (2 * (2 * (2 * y))) by omega, bs_twice, bs_twice, bs_twice, bs_twice]
theorem bss4_low (k : Nat) (h : k < 16) : bss k 4 = tab.getD k 0 := by
  match k, h with
  | 0, _ | 1, _ | 2, _ | 3, _ | 4, _ | 5, _ | 6, _ | 7, _ | 8, _ | 9, _ | 10, _ | 11, _ | 12, _ | 13, _ | 14, _ | 15, _ => decide
  | k + 16, h => exact absurd h (by omega)

theorem split16 (x : Nat) : x = (16 * (x / 16)) ^^^ (x % 16) := by
  have h : (16 * (x / 16)) ^^^ (x % 16) = 16 * (x / 16) + x % 16 := by
    have := Nat.two_pow_add_eq_or_of_lt (i := 4) (b := x % 16) (by omega) (x / 16)
    have h2 : (2 ^ 4 * (x / 16)) &&& (x % 16) = 0 := by
      apply Nat.eq_of_testBit_eq
      intro i
      simp only [Nat.testBit_and, Nat.testBit_two_pow_mul, Nat.zero_testBit]
      by_cases hi : 4 ≤ i
      · have : (x % 16).testBit i = false := Nat.testBit_lt_two_pow (Nat.lt_of_lt_of_le (Nat.mod_lt _ (by decide)) (Nat.pow_le_pow_right (by decide : 0 < 2) hi))
        simp [this]
      · simp [hi]
    have h3 : (2 ^ 4 * (x / 16)) ^^^ (x % 16) = (2 ^ 4 * (x / 16)) ||| (x % 16) := by
      apply Nat.eq_of_testBit_eq
      intro i
      have := congrArg (fun n => Nat.testBit n i) h2
      simp only [Nat.testBit_and, Nat.zero_testBit] at this
      simp only [Nat.testBit_xor, Nat.testBit_or]
      cases h1 : (2 ^ 4 * (x / 16)).testBit i <;> cases h4 : (x % 16).testBit i <;> simp_all
    rw [show (16 : Nat) = 2 ^ 4 from rfl] at *
    rw [h3, ← this]
  omega

theorem bss4 (x : Nat) : bss x 4 = (x / 16) ^^^ tab.getD (x % 16) 0 := by
  conv => lhs; rw [split16 x]
  rw [bss_xor, bss4_high, bss4_low _ (by omega)]

theorem bss_add (n j k : Nat) : bss n (j + k) = bss (bss n j) k := by
  induction k with
  | zero => rfl
  | succ k ih => show bs (bss n (j + k)) = bs _; rw [ih]

/-- A byte by four bits twice, and by eight single bits. -/
theorem byt_bits (n b : Nat) (hb : b < 256) : byt n b = bss (n ^^^ b) 8 := by
  rw [show 8 = 4 + 4 from rfl, bss_add, bss4 (n ^^^ b), bss4]
  unfold byt nib
  have e : (n ^^^ b) / 16 ^^^ tab.getD ((n ^^^ b) % 16) 0 = (n / 16 ^^^ tab.getD ((n ^^^ b) % 16) 0) ^^^ (b / 16) := by
    rw [xor_div16, Nat.xor_assoc, Nat.xor_assoc, Nat.xor_comm (b / 16)]
  rw [e, xor_div16 _ (b / 16), show b / 16 / 16 = 0 by omega, Nat.xor_zero]

/-! ### One byte that is another one -/
theorem bs_inj {a b : Nat} (ha : a < 4294967296) (hb : b < 4294967296) (h : bs a = bs b) : a = b := by
  have hx : bs (a ^^^ b) = 0 := by rw [bs_xor, h, Nat.xor_self]
  have hl : a ^^^ b < 4294967296 := xor_lt ha hb
  have h0 : a ^^^ b = 0 := by
    generalize a ^^^ b = x at hx hl
    unfold bs at hx
    split at hx
    · have e : x / 2 = 3988292384 := by
        have := congrArg (· ^^^ 3988292384) hx
        simpa [Nat.xor_assoc] using this
      omega
    · omega
  have e : a ^^^ (a ^^^ b) = b := by rw [← Nat.xor_assoc, Nat.xor_self, Nat.zero_xor]
  rw [h0, Nat.xor_zero] at e
  exact e
theorem bss_inj {a b : Nat} (k : Nat) (ha : a < 4294967296) (hb : b < 4294967296) (h : bss a k = bss b k) : a = b := by
  induction k with
  | zero => exact h
  | succ k ih => exact ih (bs_inj (bss_lt ha k) (bss_lt hb k) h)
theorem xor_right_inj {a b c : Nat} (h : a ^^^ c = b ^^^ c) : a = b := by
  have := congrArg (· ^^^ c) h
  simpa [Nat.xor_assoc] using this
theorem byt_inj_left {a b : Nat} (ha : a < 4294967296) (hb : b < 4294967296) (c : UInt8) (h : byt a c.toNat = byt b c.toNat) : a = b := by
  have hc : c.toNat < 256 := c.toNat_lt
  rw [byt_bits _ _ hc, byt_bits _ _ hc] at h
  exact xor_right_inj (bss_inj 8 (xor_lt ha (by omega)) (xor_lt hb (by omega)) h)
theorem byt_inj_right {a : Nat} (ha : a < 4294967296) (c d : UInt8) (h : byt a c.toNat = byt a d.toNat) : c = d := by
  have hc : c.toNat < 256 := c.toNat_lt
  have hd : d.toNat < 256 := d.toNat_lt
  rw [byt_bits _ _ hc, byt_bits _ _ hd] at h
  have := bss_inj 8 (xor_lt ha (by omega)) (xor_lt ha (by omega)) h
  rw [Nat.xor_comm a, Nat.xor_comm a] at this
  exact UInt8.toNat_inj.1 (xor_right_inj this)
theorem raw_inj_left (l : List UInt8) : ∀ {a b : Nat}, a < 4294967296 → b < 4294967296 → raw a l = raw b l → a = b := by
  induction l with
  | nil => intro a b _ _ h; exact h
  | cons c l ih => intro a b ha hb h; exact byt_inj_left ha hb c (ih (byt_lt ha _) (byt_lt hb _) h)

/-- One byte that is another one is found. -/
theorem sum_ne (l m : List UInt8) (c d : UInt8) (h : c ≠ d) : sum (l ++ c :: m) ≠ sum (l ++ d :: m) := by
  intro e
  unfold sum at e
  have hn : raw 4294967295 l < 4294967296 := raw_lt l (by decide)
  have h1 : raw 4294967295 (l ++ c :: m) < 4294967296 := raw_lt _ (by decide)
  have h2 : raw 4294967295 (l ++ d :: m) < 4294967296 := raw_lt _ (by decide)
  have e2 : raw 4294967295 (l ++ c :: m) = raw 4294967295 (l ++ d :: m) := by omega
  rw [raw_append, raw_append, raw_cons, raw_cons] at e2
  exact h (byt_inj_right hn c d (raw_inj_left m (byt_lt hn _) (byt_lt hn _) e2))
end Go.Crc
