/- Clock: the plain law: lists of numbers, no program in sight. -/
import Derived.Test.YtfkgampnkpjicaaRef
namespace Go.Proofs.Ytfkgampnkpjicaa
open Go.RowKit Go.Wd

/-- May a node tick? -/
def tk (xs : List Int) (n : Nat) (node : Int) : Bool := decide (0 ≤ node ∧ node < n) && decide (xs.getD node.toNat 0 - xs.getD (nx xs n) 0 < 2)
/-- The clocks behind a tick. -/
def tl (xs : List Int) (n : Nat) (node : Int) : List Int := if tk xs n node = true then xs.set node.toNat (xs.getD node.toNat 0 + 1) else xs
/-- What a clock tells. -/
def av (xs : List Int) (n : Nat) (node : Int) : Int := if 0 ≤ node ∧ node < n then xs.getD node.toNat 0 else 0

theorem tl_len (xs : List Int) (n : Nat) (node : Int) : (tl xs n node).length = xs.length := by unfold tl; split <;> simp

/-- Each clock lies between 0 and m. -/
def In (m : Int) (xs : List Int) : Prop := ∀ i, 0 ≤ xs.getD i 0 ∧ xs.getD i 0 ≤ m

theorem In.tl {m : Int} {xs : List Int} (h : In m xs) (n : Nat) (node : Int) : In (m + 1) (tl xs n node) := by
  intro i
  unfold Ytfkgampnkpjicaa.tl
  have hi := h i
  have hn := h node.toNat
  split
  · simp only [List.getD_eq_getElem?_getD, List.getElem?_set] at *
    split
    · split <;> simp <;> omega
    · omega
  · omega

theorem In.mono {m m' : Int} {xs : List Int} (h : In m xs) (hm : m ≤ m') : In m' xs := fun i => ⟨(h i).1, by have := (h i).2; omega⟩

theorem getD_take {xs : List Int} {n i : Nat} (h : i < n) : (xs.take n).getD i 0 = xs.getD i 0 := by
  simp [List.getD_eq_getElem?_getD, h]

theorem nx_take (xs : List Int) (n k : Nat) (hk : k ≤ n) : nx (xs.take n) k = nx xs k := by
  induction k with
  | zero => rfl
  | succ k ih =>
    have := nx_lt xs k
    rw [nx_succ, nx_succ, ih (by omega), getD_take (by omega), getD_take (by omega)]

theorem tk_take (xs : List Int) (n : Nat) (node : Int) : tk (xs.take n) n node = tk xs n node := by
  unfold tk
  by_cases h : 0 ≤ node ∧ node < n
  · have h1 := nx_lt xs n
    rw [nx_take xs n n (Nat.le_refl _), getD_take (by omega), getD_take (by omega)]
  · simp [h]

theorem tl_take (xs : List Int) (n : Nat) (node : Int) : tl (xs.take n) n node = (tl xs n node).take n := by
  unfold tl
  rw [tk_take]
  by_cases h : tk xs n node = true
  · rw [if_pos h, if_pos h]
    have : 0 ≤ node ∧ node < n := by
      simp only [tk, Bool.and_eq_true, decide_eq_true_eq] at h; exact h.1
    rw [getD_take (by omega), List.take_set]
  · rw [if_neg h, if_neg h]

theorem av_take (xs : List Int) (n : Nat) (node : Int) : av (xs.take n) n node = av xs n node := by
  unfold av
  split
  · rw [getD_take (by omega)]
  · rfl

theorem in_take {m : Int} {xs : List Int} (h : In m xs) (hm : 0 ≤ m) (n : Nat) : In m (xs.take n) := by
  intro i
  by_cases hi : i < n
  · rw [getD_take hi]; exact h i
  · simp [List.getD_eq_getElem?_getD, List.getElem?_take, hi, hm]

/-- The slowest one may tick. -/
theorem tk_next (xs : List Int) (n : Nat) (h : 1 ≤ n) : tk xs n (nx xs n) = true := by
  have := nx_lt xs n
  simp [tk]
  omega

/-! ### The contracts, whatever the node -/
theorem tick_any (w : World) (b n : Nat) (node : Int) (xs : List Int) (hl : xs.length = 6) (h6 : n ≤ 6) (hO : Own w b (clk xs n) 36) (hb : In 1000 xs) :
    Calls Try.prog 9 #[.pointer (some ⟨b, 0, none⟩), .int .i64 node] w fun e w' => e = .returned (.bool (tk xs n node)) ∧
      Own w' b (clk (tl xs n node) n) 36 ∧ Mod (· = b) w w' := by
  by_cases h : 0 ≤ node ∧ node < n
  · obtain ⟨k, rfl⟩ := Int.eq_ofNat_of_zero_le h.1
    by_cases hd : xs.getD k 0 - xs.getD (nx xs n) 0 < 2
    · refine (tick_yes w b n k xs hl h6 hO (by omega) hb hd).mono ?_
      rintro e w' ⟨rfl, h1, h2⟩
      have ht : tk xs n k = true := by simp [tk]; simp at hd; omega
      refine ⟨by rw [ht], ?_, h2⟩
      unfold tl; rw [if_pos ht]; exact h1
    · refine (tick_no w b n k xs hl h6 hO (by omega) hb (by omega)).mono ?_
      rintro e w' ⟨rfl, h1, h2⟩
      have ht : tk xs n k = false := by simp [tk]; simp at hd; omega
      refine ⟨by rw [ht], ?_, h2⟩
      unfold tl; rw [if_neg (by simp [ht])]; exact h1
  · refine (tick_out w b n node xs hl hO (by omega)).mono ?_
    rintro e w' ⟨rfl, q, rfl⟩
    have ht : tk xs n node = false := by simp [tk]; omega
    refine ⟨by rw [ht], ?_, (Mod.refl _ _).drewN q⟩
    unfold tl; rw [if_neg (by simp [ht])]; exact hO

theorem at_any (w : World) (b n : Nat) (node : Int) (xs : List Int) (hl : xs.length = 6) (h6 : n ≤ 6) (hO : Own w b (clk xs n) 36) :
    Calls Try.prog 11 #[.pointer (some ⟨b, 0, none⟩), .int .i64 node] w fun e w' => e = .returned (.int .i64 (av xs n node)) ∧ w = w' := by
  by_cases h : 0 ≤ node ∧ node < n
  · obtain ⟨k, rfl⟩ := Int.eq_ofNat_of_zero_le h.1
    refine (at_in w b n k xs hl h6 hO (by omega)).mono ?_
    rintro e w' ⟨rfl, rfl⟩
    refine ⟨?_, rfl⟩
    unfold av; rw [if_pos h]; rfl
  · refine (at_out w b n node xs hl hO (by omega)).mono ?_
    rintro e w' ⟨rfl, rfl⟩
    refine ⟨?_, rfl⟩
    unfold av; rw [if_neg h]

theorem rtick_any (w : World) (rb lb n : Nat) (node : Int) (ys : List Int) (hl : ys.length = n) (h6 : n ≤ 6) (hR : Own w rb (hold lb n) 39) (hO : Own w lb (row ys) 2) (hb : In 1000 ys) :
    Calls Try.prog 10 #[.pointer (some ⟨rb, 0, none⟩), .int .i64 node] w fun e w' => e = .returned (.bool (tk ys n node)) ∧
      Own w' lb (row (tl ys n node)) 2 ∧ Mod (· = lb) w w' := by
  by_cases h : 0 ≤ node ∧ node < n
  · obtain ⟨k, rfl⟩ := Int.eq_ofNat_of_zero_le h.1
    by_cases hd : ys.getD k 0 - ys.getD (nx ys n) 0 < 2
    · refine (rtick_yes w rb lb n k ys hl h6 hR hO (by omega) hb hd).mono ?_
      rintro e w' ⟨rfl, h1, h2⟩
      have ht : tk ys n k = true := by simp [tk]; simp at hd; omega
      refine ⟨by rw [ht], ?_, h2⟩
      unfold tl; rw [if_pos ht]; exact h1
    · refine (rtick_no w rb lb n k ys hl h6 hR hO (by omega) hb (by omega)).mono ?_
      rintro e w' ⟨rfl, q, rfl⟩
      have ht : tk ys n k = false := by simp [tk]; simp at hd; omega
      refine ⟨by rw [ht], ?_, (Mod.refl _ _).drewN q⟩
      unfold tl; rw [if_neg (by simp [ht])]; exact hO
  · have ht : tk ys n node = false := by simp [tk]; omega
    by_cases h0 : node < 0
    · refine (rtick_lo w rb node h0).mono ?_
      rintro e w' ⟨rfl, q, rfl⟩
      refine ⟨by rw [ht], ?_, (Mod.refl _ _).drewN q⟩
      unfold tl; rw [if_neg (by simp [ht])]; exact hO
    · refine (rtick_hi w rb lb n node hR (by omega) (by omega)).mono ?_
      rintro e w' ⟨rfl, q, rfl⟩
      refine ⟨by rw [ht], ?_, (Mod.refl _ _).drewN q⟩
      unfold tl; rw [if_neg (by simp [ht])]; exact hO

theorem rat_any (w : World) (rb lb n : Nat) (node : Int) (ys : List Int) (hl : ys.length = n) (hR : Own w rb (hold lb n) 39) (hO : Own w lb (row ys) 2) :
    Calls Try.prog 12 #[.pointer (some ⟨rb, 0, none⟩), .int .i64 node] w fun e w' => e = .returned (.int .i64 (av ys n node)) ∧ ∃ q, w' = w.drewN q := by
  by_cases h : 0 ≤ node ∧ node < n
  · obtain ⟨k, rfl⟩ := Int.eq_ofNat_of_zero_le h.1
    refine (rat_in w rb lb n k ys hl hR hO (by omega)).mono ?_
    rintro e w' ⟨rfl, hq⟩
    refine ⟨?_, hq⟩
    unfold av; rw [if_pos h]; rfl
  · have ha : av ys n node = 0 := by unfold av; rw [if_neg h]
    rw [ha]
    by_cases h0 : node < 0
    · exact rat_lo w rb node h0
    · exact rat_hi w rb lb n node hR (by omega) (by omega)
end Go.Proofs.Ytfkgampnkpjicaa
