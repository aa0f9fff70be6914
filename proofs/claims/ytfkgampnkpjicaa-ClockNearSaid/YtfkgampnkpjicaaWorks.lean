/- Clock: works, walked. -/
import Derived.Test.YtfkgampnkpjicaaPlain
namespace Go.Proofs.Ytfkgampnkpjicaa
open Go.RowKit Go.Wd

/-- A tick with its answer named. -/
theorem tick_is (w : World) (b n : Nat) (node : Int) (xs xs' : List Int) (r : Bool) (hl : xs.length = 6) (h6 : n ≤ 6) (hO : Own w b (clk xs n) 36) (hb : In 1000 xs)
    (hr : tk xs n node = r) (hx : tl xs n node = xs') :
    Calls Try.prog 9 #[.pointer (some ⟨b, 0, none⟩), .int .i64 node] w fun e w' => e = .returned (.bool r) ∧ Own w' b (clk xs' n) 36 ∧ Mod (· = b) w w' := by
  subst hr; subst hx; exact tick_any w b n node xs hl h6 hO hb

theorem at_is (w : World) (b n : Nat) (node : Int) (xs : List Int) (r : Int) (hl : xs.length = 6) (h6 : n ≤ 6) (hO : Own w b (clk xs n) 36) (hr : av xs n node = r) :
    Calls Try.prog 11 #[.pointer (some ⟨b, 0, none⟩), .int .i64 node] w fun e w' => e = .returned (.int .i64 r) ∧ w = w' := by
  subst hr; exact at_any w b n node xs hl h6 hO

theorem next_is (w : World) (b n : Nat) (xs : List Int) (r : Nat) (hl : xs.length = 6) (h1 : 1 ≤ n) (h6 : n ≤ 6) (hO : Own w b (clk xs n) 36) (hr : nx xs n = r) :
    Calls Try.prog 13 #[.pointer (some ⟨b, 0, none⟩)] w fun e w' => e = .returned (.int .i64 r) ∧ Own w' b (clk xs n) 36 ∧ Mod (fun _ => False) w w' := by
  subst hr
  refine (next_any w b n xs h1 h6 (fun i hi => hO.cell' (clk_cell hl hi)) (hO.cell' (clk_n hl))).mono ?_
  rintro e w' ⟨rfl, hB⟩
  exact ⟨rfl, (hB.block b hO.lt).trans hO, Mod.ofBelow hB⟩

/-- Six numbers, each from 0 to 9. -/
theorem in6 (a b c d e f : Int) (h : decide (0 ≤ a ∧ a ≤ 1000 ∧ 0 ≤ b ∧ b ≤ 1000 ∧ 0 ≤ c ∧ c ≤ 1000 ∧ 0 ≤ d ∧ d ≤ 1000 ∧ 0 ≤ e ∧ e ≤ 1000 ∧ 0 ≤ f ∧ f ≤ 1000) = true) : In 1000 [a, b, c, d, e, f] := by
  have h := of_decide_eq_true h
  intro i
  match i with
  | 0 => simp; omega
  | 1 => simp; omega
  | 2 => simp; omega
  | 3 => simp; omega
  | 4 => simp; omega
  | 5 => simp; omega
  | n + 6 => simp

theorem works_any (w : World) : Calls Try.prog 8 #[] w fun e w' => e = .returned (.bool true) ∧ Mod (fun _ => False) w w' := by
  go_enter Try.func8, Try.ntmps8
  go_wp2_with fail
  refine (new_in _ 2 (by omega) (by omega)).mono ?_
  rintro e w1 ⟨rfl, hw1⟩
  have o1 : Own w1 w.heap.size (clk [0,0,0,0,0,0] 2) 36 := by rw [hw1]; exact Own.new _ _ _
  have m1 : Mod (fun k => k = w.heap.size) w w1 := by rw [hw1]; exact (Mod.refl _ _).alloc _
  clear hw1
  generalize hbe : w.heap.size = b at *
  have Hb := Lib.hid hbe
  clear hbe
  go_wp2_with fail
  refine (tick_is _ b 2 0 _ [1,0,0,0,0,0] true rfl (by omega) o1 (in6 _ _ _ _ _ _ (by decide)) (by decide) (by decide)).mono ?_
  rintro e w2 ⟨rfl, o2, m2⟩
  replace m2 := m1.trans m2
  clear o1 m1
  go_wp2_with fail
  refine (tick_is _ b 2 0 _ [2,0,0,0,0,0] true rfl (by omega) o2 (in6 _ _ _ _ _ _ (by decide)) (by decide) (by decide)).mono ?_
  rintro e w3 ⟨rfl, o3, m3⟩
  replace m3 := m2.trans m3
  clear o2 m2
  go_wp2_with fail
  refine (tick_is _ b 2 0 _ [2,0,0,0,0,0] false rfl (by omega) o3 (in6 _ _ _ _ _ _ (by decide)) (by decide) (by decide)).mono ?_
  rintro e w4 ⟨rfl, o4, m4⟩
  replace m4 := m3.trans m4
  clear o3 m3
  go_wp2_with fail
  refine (at_is _ b 2 0 _ 2 rfl (by omega) o4 (by decide)).mono ?_
  rintro e w5 ⟨rfl, rfl⟩
  go_wp2_with fail
  refine (next_is _ b 2 _ 1 rfl (by omega) (by omega) o4 (by decide)).mono ?_
  rintro e w5 ⟨rfl, o5, m5⟩
  replace m5 := m4.trans (m5.mono (fun _ _ h => h.elim))
  clear o4 m4
  go_wp2_with fail
  refine (tick_is _ b 2 1 _ [2,1,0,0,0,0] true rfl (by omega) o5 (in6 _ _ _ _ _ _ (by decide)) (by decide) (by decide)).mono ?_
  rintro e w6 ⟨rfl, o6, m6⟩
  replace m6 := m5.trans m6
  clear o5 m5
  go_wp2_with fail
  refine (tick_is _ b 2 0 _ [3,1,0,0,0,0] true rfl (by omega) o6 (in6 _ _ _ _ _ _ (by decide)) (by decide) (by decide)).mono ?_
  rintro e w7 ⟨rfl, o7, m7⟩
  replace m7 := m6.trans m7
  clear o6 m6
  go_wp2_with fail
  refine (next_is _ b 2 _ 1 rfl (by omega) (by omega) o7 (by decide)).mono ?_
  rintro e w8 ⟨rfl, o8, m8⟩
  replace m8 := m7.trans (m8.mono (fun _ _ h => h.elim))
  clear o7 m7
  go_wp2_with fail
  refine (tick_is _ b 2 2 _ [3,1,0,0,0,0] false rfl (by omega) o8 (in6 _ _ _ _ _ _ (by decide)) (by decide) (by decide)).mono ?_
  rintro e w9 ⟨rfl, o9, m9⟩
  replace m9 := m8.trans m9
  clear o8 m8
  go_wp2_with fail
  refine (at_is _ b 2 7 _ 0 rfl (by omega) o9 (by decide)).mono ?_
  rintro e w10 ⟨rfl, rfl⟩
  go_wp2_with fail
  go_ret
  exact ⟨rfl, m9.mono (fun i hi h => absurd Hb.out (by omega))⟩

/-! ### ClockKnown -/
theorem new_none (w : World) (n : Int) (h : n < 1 ∨ 6 < n) : Calls Try.prog 6 #[.int .i64 n] w fun e w' => e = .returned (.pointer none) ∧ w = w' := new_out w n h

/-- The clocks when the slowest one has ticked so often. -/
def st (n : Nat) : Nat → List Int
  | 0 => [0, 0, 0, 0, 0, 0]
  | k + 1 => tl (st n k) n (nx (st n k) n)
theorem st_len (n k : Nat) : (st n k).length = 6 := by
  induction k with
  | zero => rfl
  | succ k ih => simp [st, tl_len, ih]
theorem st_in (n k : Nat) : In k (st n k) := by
  induction k with
  | zero =>
    intro i
    have : (st n 0).getD i 0 = 0 := by
      show ([0, 0, 0, 0, 0, 0] : List Int).getD i 0 = 0
      match i with
      | 0 | 1 | 2 | 3 | 4 | 5 => rfl
      | i + 6 => rfl
    omega
  | succ k ih => have := ih.tl n (nx (st n k) n); exact this

theorem tick_st (w : World) (b n k : Nat) (h1 : 1 ≤ n) (h6 : n ≤ 6) (hk : k ≤ 100) (hO : Own w b (clk (st n k) n) 36) :
    Calls Try.prog 9 #[.pointer (some ⟨b, 0, none⟩), .int .i64 (nx (st n k) n)] w fun e w' => e = .returned (.bool true) ∧ Own w' b (clk (st n (k + 1)) n) 36 ∧ Mod (· = b) w w' :=
  tick_is w b n _ _ _ true (st_len n k) h6 hO ((st_in n k).mono (by omega)) (tk_next _ n h1) rfl

theorem nx_one (xs : List Int) : nx xs 1 = 0 := by have := nx_lt xs 1; omega

set_option maxHeartbeats 1000000 in
theorem known_walk (w : World) : Calls Try.prog 5 #[] w fun e w' => e = .returned (.bool true) ∧ Mod (fun _ => False) w w' := by
  obtain ⟨B, HB⟩ : ∃ B, Hid (w.heap.size = B) := ⟨_, rfl⟩
  go_enter Try.func5, Try.ntmps5
  go_wp2_with fail
  refine (new_in _ 6 (by omega) (by omega)).mono ?_
  rintro e w1 ⟨rfl, hw1⟩
  have o1 : Own w1 w.heap.size (clk (st 6 0) 6) 36 := by rw [hw1]; exact Own.new _ _ _
  have m1 : Mod (fun k => B ≤ k) w w1 := by rw [hw1]; exact (Mod.refl _ _).alloc _
  have hb : B ≤ w.heap.size := by rw [HB.out]; exact Nat.le_refl _
  clear hw1
  generalize w.heap.size = b at o1 hb ⊢
  go_wp2_with fail
  go_loopw [3, 7, 8, 9, 10, 11, 12, 13, 14, 15] (fun i _ _ _ _ _ _ _ _ _ wr => ∃ k : Nat, k ≤ 60 ∧ i = .int .i64 k ∧ Own wr b (clk (st 6 k) 6) 36 ∧ Mod (fun k => B ≤ k) w wr)
    (fun i _ _ _ _ _ _ _ _ _ _ => 60 - (intOf i).toNat)
  case atStart => exact ⟨0, by omega, rfl, o1, m1⟩
  case round =>
    obtain ⟨k, hk, rfl, ok, mk⟩ := hrel
    by_cases hlt : k < 60
    · go_wp2_with fail
      refine (next_is _ b 6 _ _ (st_len 6 k) (by omega) (by omega) ok rfl).mono ?_
      rintro e w2 ⟨rfl, o2, m2⟩
      go_wp2_with fail
      refine (tick_st _ b 6 k (by omega) (by omega) (by omega) o2).mono ?_
      rintro e w3 ⟨rfl, o3, m3⟩
      replace m3 := (mk.trans' m2 (fun _ _ h => h.elim)).trans' m3 (by rintro i _ rfl; exact hb)
      clear m2 o2 mk ok
      go_wp2_with fail
      go_roundw
      case rel => exact ⟨k + 1, by omega, by go_num, o3, m3⟩
      case measure => simp [intOf]; omega
    · obtain rfl : k = 60 := by omega
      clear o1 m1 hlt hk
      go_wp2_with fail
      refine (new_in _ 1 (by omega) (by omega)).mono ?_
      rintro e w2 ⟨rfl, hw2⟩
      have lt := ok.lt
      have o2 : Own w2 wr.heap.size (clk (st 1 0) 1) 36 := by rw [hw2]; exact Own.new _ _ _
      have m2 : Mod (fun k => B ≤ k) w w2 := by rw [hw2]; exact mk.alloc _
      have ok2 : Own w2 b (clk (st 6 60) 6) 36 := by rw [hw2]; exact ok.alloc _
      have hb2 : B ≤ wr.heap.size := by omega
      clear hw2 mk ok
      generalize wr.heap.size = b2 at o2 hb2 lt ⊢
      go_wp2_with fail
      go_loopw [5, 17, 18, 19, 20, 21, 22, 23] (fun i _ _ _ _ _ _ _ wr => ∃ k : Nat, k ≤ 50 ∧ i = .int .i64 k ∧ Own wr b2 (clk (st 1 k) 1) 36 ∧ Own wr b (clk (st 6 60) 6) 36 ∧ Mod (fun k => B ≤ k) w wr)
        (fun i _ _ _ _ _ _ _ _ => 50 - (intOf i).toNat)
      case atStart => exact ⟨0, by omega, rfl, o2, ok2, m2⟩
      case round =>
        obtain ⟨k, hk, rfl, ok, okb, mk⟩ := hrel
        by_cases hlt : k < 50
        · have ht := tick_st wr b2 1 k (by omega) (by omega) (by omega) ok
          rw [nx_one] at ht
          have HT := Lib.hid ht
          clear ht
          go_wp2_with fail
          refine (HT.out).mono ?_
          rintro e w3 ⟨rfl, o3, m3⟩
          have okb3 := okb.mod m3 (by omega)
          replace m3 := mk.trans' m3 (by rintro i _ rfl; exact hb2)
          clear mk ok okb
          go_wp2_with fail
          go_roundw
          case rel => exact ⟨k + 1, by omega, by go_num, o3, okb3, m3⟩
          case measure => simp [intOf]; omega
        · obtain rfl : k = 50 := by omega
          clear o2 m2 ok2 hlt hk
          go_wp2_with fail
          refine (works_any _).mono ?_
          rintro e w3 ⟨rfl, m3⟩
          have ok3 := ok.mod m3 (fun h => h)
          have okb3 := okb.mod m3 (fun h => h)
          replace m3 := mk.trans' m3 (fun _ _ h => h.elim)
          clear mk ok okb
          have e6 : st 6 60 = [10, 10, 10, 10, 10, 10] := by kernel_rfl
          have e1 : st 1 50 = [50, 0, 0, 0, 0, 0] := by kernel_rfl
          rw [e6] at okb3
          rw [e1] at ok3
          clear e6 e1
          go_wp2_with fail
          refine (new_out _ 0 (by omega)).mono ?_
          rintro e w4 ⟨rfl, rfl⟩
          go_wp2_with fail
          refine (new_out _ 7 (by omega)).mono ?_
          rintro e w4 ⟨rfl, rfl⟩
          go_wp2_with fail
          refine (at_is _ b 6 0 _ 10 rfl (by omega) okb3 (by decide)).mono ?_
          rintro e w4 ⟨rfl, rfl⟩
          go_wp2_with fail
          refine (at_is _ b 6 5 _ 10 rfl (by omega) okb3 (by decide)).mono ?_
          rintro e w4 ⟨rfl, rfl⟩
          go_wp2_with fail
          refine (at_is _ b2 1 0 _ 50 rfl (by omega) ok3 (by decide)).mono ?_
          rintro e w4 ⟨rfl, rfl⟩
          go_wp2_with fail
          refine (tick_is _ b 6 (-1) _ [10, 10, 10, 10, 10, 10] false rfl (by omega) okb3 (in6 _ _ _ _ _ _ (by decide)) (by decide) (by decide)).mono ?_
          rintro e w4 ⟨rfl, okb4, m4⟩
          replace m4 := m3.trans' m4 (by rintro i _ rfl; exact hb)
          clear m3 okb3 ok3
          go_wp2_with fail
          refine (tick_is _ b 6 6 _ [10, 10, 10, 10, 10, 10] false rfl (by omega) okb4 (in6 _ _ _ _ _ _ (by decide)) (by decide) (by decide)).mono ?_
          rintro e w5 ⟨rfl, okb5, m5⟩
          replace m5 := m4.trans' m5 (by rintro i _ rfl; exact hb)
          clear m4 okb4
          go_wp2_with fail
          refine (at_is _ b 6 (-1) _ 0 rfl (by omega) okb5 (by decide)).mono ?_
          rintro e w6 ⟨rfl, rfl⟩
          go_wp2_with fail
          refine (tick_nil _ 0).mono ?_
          rintro e w6 ⟨rfl, q, rfl⟩
          replace okb5 := okb5.drewN q
          replace m5 := m5.drewN q
          go_wp2_with fail
          refine (at_nil _ 0).mono ?_
          rintro e w6 ⟨rfl, rfl⟩
          go_wp2_with fail
          refine (next_nil _).mono ?_
          rintro e w6 ⟨rfl, hB⟩
          have okb6 : Own w6 b (clk [10, 10, 10, 10, 10, 10] 6) 36 := (hB.block b okb5.lt).trans okb5
          have m6 := m5.trans (Mod.ofBelow hB)
          clear hB m5 okb5
          go_wp2_with fail
          refine (next_is _ b 6 _ 0 rfl (by omega) (by omega) okb6 (by decide)).mono ?_
          rintro e w7 ⟨rfl, okb7, m7⟩
          replace m7 := m6.trans' m7 (fun _ _ h => h.elim)
          clear m6 okb6
          go_wp2_with fail
          go_ret
          exact ⟨rfl, m7.mono (fun i hi h => absurd HB.out (by omega))⟩
end Go.Proofs.Ytfkgampnkpjicaa
