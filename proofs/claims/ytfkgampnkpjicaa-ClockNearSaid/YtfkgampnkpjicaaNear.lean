/- Clock: ClockNear: the plain law, and the walk. -/
import Derived.Test.YtfkgampnkpjicaaWorks
namespace Go.Proofs.Ytfkgampnkpjicaa
open Go.RowKit Go.Wd

/-- The lowest, the highest, the sum of the first ones (as the loop reckons them). -/
def lo (xs : List Int) : Nat → Int
  | 0 => xs.getD 0 0
  | k + 1 => min (lo xs k) (xs.getD k 0)
def hi (xs : List Int) : Nat → Int
  | 0 => xs.getD 0 0
  | k + 1 => max (hi xs k) (xs.getD k 0)
def sm (xs : List Int) : Nat → Int
  | 0 => 0
  | k + 1 => sm xs k + xs.getD k 0

theorem nx_min (xs : List Int) (k : Nat) : ∀ i, i < k → xs.getD (nx xs k) 0 ≤ xs.getD i 0 := by
  induction k with
  | zero => intro i h; omega
  | succ k ih =>
    intro i h
    rw [nx_succ]
    by_cases hi : i = k
    · subst hi; split <;> omega
    · have := ih i (by omega)
      split <;> omega

/-- All near. -/
def Near (n : Nat) (xs : List Int) : Prop := ∀ i j, i < n → j < n → xs.getD i 0 - xs.getD j 0 ≤ 2

theorem getD_set {xs : List Int} {k i : Nat} {x : Int} (h : k < xs.length) : (xs.set k x).getD i 0 = if i = k then x else xs.getD i 0 := by
  simp only [List.getD_eq_getElem?_getD, List.getElem?_set]
  by_cases hi : i = k
  · subst hi; simp [h]
  · rw [if_neg (fun e => hi e.symm), if_neg hi]

theorem near_tl {n : Nat} {xs : List Int} (h : Near n xs) (hl : n ≤ xs.length) (node : Int) : Near n (tl xs n node) := by
  unfold tl
  split
  case isFalse => exact h
  case isTrue ht =>
    simp only [tk, Bool.and_eq_true, decide_eq_true_eq] at ht
    intro i j hi hj
    have h0 := h i j hi hj
    have h1 := nx_min xs n j hj
    rw [getD_set (by omega), getD_set (by omega)]
    split
    · rename_i e
      split <;> omega
    · split
      · have := h i node.toNat hi (by omega); omega
      · omega

theorem sm_set {xs : List Int} {k : Nat} {x : Int} (h : k < xs.length) (n : Nat) : sm (xs.set k x) n = sm xs n + (if k < n then x - xs.getD k 0 else 0) := by
  induction n with
  | zero => simp [sm]
  | succ n ih =>
    simp only [sm]
    rw [ih, getD_set h]
    by_cases hk : n = k
    · subst hk; simp; omega
    · rw [if_neg hk]; split <;> split <;> omega

theorem sm_tl {n : Nat} {xs : List Int} (hl : n ≤ xs.length) (node : Int) : sm (tl xs n node) n = sm xs n + (if tk xs n node = true then 1 else 0) := by
  unfold tl
  by_cases ht : tk xs n node = true
  · rw [if_pos ht, if_pos ht]
    have hb : 0 ≤ node ∧ node < n := by simp only [tk, Bool.and_eq_true, decide_eq_true_eq] at ht; exact ht.1
    rw [sm_set (by omega), if_pos (by omega)]
    omega
  · rw [if_neg ht, if_neg ht]; omega

theorem lo_le (xs : List Int) (k : Nat) : ∀ i, i < k → lo xs k ≤ xs.getD i 0 := by
  induction k with
  | zero => intro i h; omega
  | succ k ih =>
    intro i h
    simp only [lo]
    by_cases hi : i = k
    · subst hi; omega
    · have := ih i (by omega); omega
theorem lo_at (xs : List Int) (k : Nat) (hk : 1 ≤ k) : ∃ i, i < k ∧ lo xs k = xs.getD i 0 := by
  induction k with
  | zero => omega
  | succ k ih =>
    simp only [lo]
    by_cases h0 : k = 0
    · subst h0; exact ⟨0, by omega, by simp [lo]⟩
    · obtain ⟨i, hi, e⟩ := ih (by omega)
      by_cases hle : lo xs k ≤ xs.getD k 0
      · exact ⟨i, by omega, by omega⟩
      · exact ⟨k, by omega, by omega⟩
theorem hi_at (xs : List Int) (k : Nat) (hk : 1 ≤ k) : ∃ i, i < k ∧ hi xs k = xs.getD i 0 := by
  induction k with
  | zero => omega
  | succ k ih =>
    simp only [hi]
    by_cases h0 : k = 0
    · subst h0; exact ⟨0, by omega, by simp [hi]⟩
    · obtain ⟨i, hi', e⟩ := ih (by omega)
      by_cases hle : xs.getD k 0 ≤ hi xs k
      · exact ⟨i, by omega, by omega⟩
      · exact ⟨k, by omega, by omega⟩

theorem lo_nx (xs : List Int) (n : Nat) (h : 1 ≤ n) : lo xs n = xs.getD (nx xs n) 0 := by
  obtain ⟨i, hi, e⟩ := lo_at xs n h
  have h1 := nx_min xs n i hi
  have hx : nx xs n < n := by have := nx_lt xs n; omega
  have h2 := lo_le xs n _ hx
  omega

theorem hi_lo {n : Nat} {xs : List Int} (h : Near n xs) (h1 : 1 ≤ n) : hi xs n - lo xs n ≤ 2 := by
  obtain ⟨i, hi', e⟩ := hi_at xs n h1
  obtain ⟨j, hj, e2⟩ := lo_at xs n h1
  have := h i j hi' hj
  omega

theorem lohi_in {m : Int} {xs : List Int} (h : In m xs) (k : Nat) : 0 ≤ lo xs k ∧ lo xs k ≤ m ∧ 0 ≤ hi xs k ∧ hi xs k ≤ m := by
  induction k with
  | zero => have := h 0; simp only [lo, hi]; omega
  | succ k ih => have := h k; simp only [lo, hi]; omega
theorem sm_in {m : Int} {xs : List Int} (h : In m xs) (k : Nat) : 0 ≤ sm xs k ∧ sm xs k ≤ m * k := by
  induction k with
  | zero => simp [sm]
  | succ k ih =>
    have := h k
    simp only [sm]
    have e : m * ((k + 1 : Nat) : Int) = m * k + m := by push_cast; rw [Int.mul_add, Int.mul_one]
    omega
theorem av_at {xs : List Int} {n k : Nat} (h : k < n) : av xs n k = xs.getD k 0 := by
  unfold av; rw [if_pos (by omega)]; rfl

theorem cell_mod {S : Nat → Prop} {W W' : World} {a : Addr} {v : Value} (h : W.cell? a = some v) (hm : Mod S W W') (hs : ¬ S a.block) : W'.cell? a = some v :=
  (World.cell?_of_block (w := W) (hm.block a.block (World.block_lt_of_cell? W a h) hs)).trans h
theorem sm_le {m : Int} {xs : List Int} (h : In m xs) (hm : m ≤ 301) {k : Nat} (hk : k ≤ 6) : 0 ≤ sm xs k ∧ sm xs k ≤ 2000 := by
  have h1 := sm_in (h.mono hm) k
  omega
theorem zero_at (i : Nat) : ([0,0,0,0,0,0] : List Int).getD i 0 = 0 := by
  match i with
  | 0 | 1 | 2 | 3 | 4 | 5 => rfl
  | i + 6 => rfl
theorem sm_zero (n : Nat) : sm [0,0,0,0,0,0] n = 0 := by
  induction n with
  | zero => rfl
  | succ n ih => simp only [sm]; rw [ih, zero_at]; rfl
theorem near_zero (n : Nat) : Near n [0,0,0,0,0,0] := by intro i j _ _; rw [zero_at, zero_at]; omega

set_option maxRecDepth 100000 in
set_option maxHeartbeats 4000000 in
theorem near_walk (B0 off len cap : Nat) (zs : List Int) (a1 : Int) (w : World) (ha0 : 0 ≤ a1) (ha1 : a1 ≤ 255) (hlc : len ≤ cap) (hz : zs.length = cap)
    (hcell : ∀ i, i < zs.length → w.cell? ⟨B0, off + i, none⟩ = some (.int .u8 (zs.getD i 0))) (hwz : ∀ i, 0 ≤ zs.getD i 0 ∧ zs.getD i 0 ≤ 255) :
    Calls Try.prog 4 #[.slice (some ⟨B0, off, none⟩) len cap, .int .u8 a1] w fun e w' => e = .returned (.bool true) ∧ Mod (fun _ => False) w w' := by
  obtain ⟨B, HB⟩ : ∃ B, Hid (w.heap.size = B) := ⟨_, rfl⟩
  obtain ⟨n, Hn⟩ : ∃ n : Nat, Hid (1 + a1 % 6 = (n : Int)) := ⟨(1 + a1 % 6).toNat, by show _ = _; omega⟩
  have hn1 : 1 ≤ n := by have : 1 + a1 % 6 = (n : Int) := Hn.out; omega
  have hn6 : n ≤ 6 := by have : 1 + a1 % 6 = (n : Int) := Hn.out; omega
  go_enter Try.func4, Try.ntmps4
  go_wp2_with fail
  refine (works_any _).mono ?_
  rintro e w0 ⟨rfl, m0⟩
  go_wp2_with fail
  rw [Hn.out]
  refine (new_in _ n hn1 hn6).mono ?_
  rintro e w1 ⟨rfl, hw1⟩
  have o1 : Own w1 w0.heap.size (clk [0,0,0,0,0,0] n) 36 := by rw [hw1]; exact Own.new _ _ _
  have m1 : Mod (fun k => B ≤ k) w w1 := by rw [hw1]; exact (m0.mono (fun _ _ h => h.elim)).alloc _
  have hbb : B ≤ w0.heap.size := by rw [← HB.out]; exact m0.size
  clear hw1 m0
  generalize w0.heap.size = b at o1 hbb ⊢
  have O1 := Lib.hid o1
  have M1 := Lib.hid m1
  clear o1 m1
  go_wp2_with fail
  go_loopw [7, 8, 9, 10, 11, 12, 13, 22, 23, 24, 25, 26, 27, 28, 29, 30, 31, 32, 33, 34, 35, 36, 37, 38, 39, 40, 41, 42, 43, 44, 45, 46, 47, 48, 49, 50, 51, 52, 53, 54, 55, 56, 57, 58, 59, 60, 61, 62, 63, 64, 65, 66, 67, 68, 69, 70, 71, 72, 73, 74, 75, 76, 77, 78, 79, 80, 81, 82, 83, 84, 85, 86, 87, 88, 89, 90, 91, 92, 93, 94, 95, 96, 97] (fun t i _ _ _ _ _ _ _ _ _ _ _ _ _ _ _ _ _ _ _ _ _ _ _ _ _ _ _ _ _ _ _ _ _ _ _ _ _ _ _ _ _ _ _ _ _ _ _ _ _ _ _ _ _ _ _ _ _ _ _ _ _ _ _ _ _ _ _ _ _ _ _ _ _ _ _ _ _ _ _ _ _ wr =>
      ∃ k : Nat, ∃ xs : List Int, k ≤ 300 ∧ k ≤ len ∧ i = .int .i64 k ∧ t = .int .i64 (sm xs n) ∧ xs.length = 6 ∧ In k xs ∧ Near n xs ∧ Own wr b (clk xs n) 36 ∧ Mod (fun k => B ≤ k) w wr)
    (fun _ i _ _ _ _ _ _ _ _ _ _ _ _ _ _ _ _ _ _ _ _ _ _ _ _ _ _ _ _ _ _ _ _ _ _ _ _ _ _ _ _ _ _ _ _ _ _ _ _ _ _ _ _ _ _ _ _ _ _ _ _ _ _ _ _ _ _ _ _ _ _ _ _ _ _ _ _ _ _ _ _ _ _ => 300 - (intOf i).toNat)
  case atStart => exact ⟨0, [0,0,0,0,0,0], by omega, by omega, rfl, by rw [show sm [0,0,0,0,0,0] n = 0 from sm_zero n], rfl, st_in 1 0, near_zero n, O1.out, M1.out⟩
  case round =>
    obtain ⟨k, xs, hk, hkl, rfl, rfl, hlx, hix, hnr, ho, hm⟩ := hrel
    by_cases hlt : k < len
    · by_cases hlt2 : k < 300
      · have hc := hcell k (by omega)
        have hB0 : B0 < B := by rw [← HB.out]; exact World.block_lt_of_cell? w _ hc
        have hc' := cell_mod hc hm (by simp; omega)
        have hz0 := hwz k
        generalize zs.getD k 0 = z at *
        have hkk : (k : Int) < len := by omega
        have hk0 : (0 : Int) ≤ k := by omega
        have hsm := sm_in hix n
        clear hc hcell hwz
        by_cases hz2 : 200 < z
        · have hz2' : decide ((200 : Int) < z) = true := by simpa using hz2
          have hix1 := hix
          go_wp2_with fail
          refine (next_is _ b n _ _ hlx hn1 hn6 ho rfl).mono ?_
          rintro e w2 ⟨rfl, ho1, hm1⟩
          replace hm1 := hm.trans' hm1 (fun _ _ h => h.elim)
          clear ho hm
          have hlx2 : (tl xs n (nx xs n)).length = 6 := by rw [tl_len]; exact hlx
          have hix2 : In ((k + 1 : Nat) : Int) (tl xs n (nx xs n)) := by have := hix.tl n (nx xs n); exact this
          have hnr2 : Near n (tl xs n (nx xs n)) := near_tl hnr (by omega) _
          have hs2 := sm_tl (n := n) (xs := xs) (by omega) (nx xs n)
          rw [if_pos (tk_next xs n hn1)] at hs2
          have Hs2 := Lib.hid hs2
          have hs2b : 0 ≤ sm xs n ∧ sm xs n ≤ 2000 := sm_le hix (by omega) hn6
          clear hs2 hix hnr hsm
          go_wp2_with fail
          refine (tick_is _ b n _ _ _ true hlx hn6 ho1 (hix1.mono (by omega)) (tk_next xs n hn1) rfl).mono ?_
          rintro e w3 ⟨rfl, ho2, hm2⟩
          replace hm2 := hm1.trans' hm2 (by rintro i _ rfl; exact hbb)
          clear ho1 hm1
          generalize tl xs n (nx xs n) = xs2 at *
          have hk301 : ((k + 1 : Nat) : Int) ≤ 301 := by omega
          go_wp2_with fail
          generalize sm xs n + 1 = T at *
          have HT := Hs2
          clear Hs2
          obtain ⟨wo, hwo⟩ : ∃ wo, wo = w3 := ⟨_, rfl⟩
          subst hwo
          obtain ⟨x0, H0⟩ : ∃ x0, Hid (xs2.getD 0 0 = x0) := ⟨_, rfl⟩
          have hav0 : av xs2 n (0 : Nat) = x0 := by rw [av_at (by omega)]; exact H0.out
          refine (at_is _ b n 0 _ _ hlx2 hn6 ho2 hav0).mono ?_
          rintro e w4 ⟨rfl, rfl⟩
          go_wp2_with fail
          refine (at_is _ b n 0 _ _ hlx2 hn6 ho2 hav0).mono ?_
          rintro e w4 ⟨rfl, rfl⟩
          have Ho2 := Lib.hid ho2
          clear ho2 hav0
          go_wp2_with fail
          go_loop [10, 11, 12, 13, 61, 62, 63, 64, 65, 66, 67, 68, 69, 70, 71, 72, 73, 74, 75, 76, 77, 78, 79, 80] (fun l h s i _ _ _ _ _ _ _ _ _ _ _ _ _ _ _ _ _ _ _ _ => ∃ j : Nat, j ≤ n ∧ i = .int .i64 j ∧ l = .int .i64 (lo xs2 j) ∧ h = .int .i64 (hi xs2 j) ∧ s = .int .i64 (sm xs2 j))
            (fun l h s i _ _ _ _ _ _ _ _ _ _ _ _ _ _ _ _ _ _ _ _ => n - (intOf i).toNat)
          case atStart => exact ⟨0, by omega, rfl, by rw [← H0.out]; rfl, by rw [← H0.out]; rfl, rfl⟩
          case round =>
            obtain ⟨j, hj, rfl, rfl, rfl, rfl⟩ := hrel
            by_cases hjn : j < n
            · have hat := at_is wo b n j _ _ hlx2 hn6 Ho2.out (av_at hjn)
              have hlo : lo xs2 (j + 1) = min (lo xs2 j) (xs2.getD j 0) := rfl
              have hhi : hi xs2 (j + 1) = max (hi xs2 j) (xs2.getD j 0) := rfl
              have hsm' : sm xs2 (j + 1) = sm xs2 j + xs2.getD j 0 := rfl
              have hy := hix2 j
              have hsmj := sm_le hix2 hk301 (by omega : j ≤ 6)
              have hlh := lohi_in hix2 j
              generalize xs2.getD j 0 = y at *
              have HAT := Lib.hid hat
              have HLO := Lib.hid hlo
              have HHI := Lib.hid hhi
              have HSM := Lib.hid hsm'
              clear hat hm2 hlo hhi hsm'
              by_cases ca : lo xs2 j ≤ y <;> by_cases cb : y ≤ hi xs2 j
              all_goals
                go_wp2_with fail
                refine (HAT.out).mono ?_
                rintro e w4 ⟨rfl, rfl⟩
                go_wp2_with fail
                refine (HAT.out).mono ?_
                rintro e w4 ⟨rfl, rfl⟩
                go_wp2_with fail
                refine (HAT.out).mono ?_
                rintro e w4 ⟨rfl, rfl⟩
                go_wp2_with fail
                go_round
                case rel => exact ⟨j + 1, by omega, by go_num, by rw [HLO.out]; exact congrArg _ (by omega), by rw [HHI.out]; exact congrArg _ (by omega), by rw [HSM.out]⟩
                case measure => simp [intOf]; omega
            · obtain rfl : j = n := by omega
              have hhl := hi_lo hnr2 hn1
              have hln := lo_nx xs2 j hn1
              have hlh := lohi_in hix2 j
              have hnl := nx_lt xs2 j
              have hnxt := next_is wo b j xs2 _ hlx2 hn1 hn6 Ho2.out rfl
              have hT : sm xs2 j = T := HT.out
              rw [hT]
              clear hT
              generalize hi xs2 j = H at *
              generalize hL : lo xs2 j = L at *
              have HL := Lib.hid hL
              have HLN := Lib.hid hln
              have HNX := Lib.hid hnxt
              clear hL hln hnxt
              have hd : decide (2 < H - L) = false := by simp; omega
              go_wp2_with fail
              refine (HNX.out).mono ?_
              rintro e w5 ⟨rfl, ho5, hm5⟩
              replace hm5 := hm2.trans' hm5 (fun _ _ h => h.elim)
              clear hm2
              go_wp2_with fail
              refine (at_is _ b j (nx xs2 j : Nat) _ L hlx2 hn6 ho5 (by rw [av_at (by omega)]; exact HLN.out.symm)).mono ?_
              rintro e w6 ⟨rfl, rfl⟩
              go_wp2_with fail
              go_roundw
              case rel => exact ⟨k + 1, xs2, by omega, by omega, by go_num, by rw [HT.out], hlx2, hix2, hnr2, ho5, hm5⟩
              case measure => simp [intOf]; omega
        · have hz2' : decide ((200 : Int) < z) = false := by simpa using hz2
          by_cases ht : tk xs n (z % n) = true
          · have hlx2 : (tl xs n (z % n)).length = 6 := by rw [tl_len]; exact hlx
            have hix2 : In ((k + 1 : Nat) : Int) (tl xs n (z % n)) := by have := hix.tl n (z % n); exact this
            have hnr2 : Near n (tl xs n (z % n)) := near_tl hnr (by omega) _
            have hs2 := sm_tl (n := n) (xs := xs) (by omega) (z % n)
            rw [if_pos ht] at hs2
            have Hs2 := Lib.hid hs2
            have hs2b : 0 ≤ sm xs n ∧ sm xs n ≤ 2000 := sm_le hix (by omega) hn6
            have htick := tick_is wr b n (z % n) xs _ true hlx hn6 ho (hix.mono (by omega)) ht rfl
            have HTK := Lib.hid htick
            clear hs2 hix hnr hsm htick ho ht
            generalize tl xs n (z % n) = xs2 at *
            go_wp2_with fail
            refine (HTK.out).mono ?_
            rintro e w3 ⟨rfl, ho2, hm2⟩
            replace hm2 := hm.trans' hm2 (by rintro i _ rfl; exact hbb)
            clear hm HTK
            have hk301 : ((k + 1 : Nat) : Int) ≤ 301 := by omega
            go_wp2_with fail
            generalize sm xs n + 1 = T at *
            have HT := Hs2
            clear Hs2
            obtain ⟨wo, hwo⟩ : ∃ wo, wo = w3 := ⟨_, rfl⟩
            subst hwo
            obtain ⟨x0, H0⟩ : ∃ x0, Hid (xs2.getD 0 0 = x0) := ⟨_, rfl⟩
            have hav0 : av xs2 n (0 : Nat) = x0 := by rw [av_at (by omega)]; exact H0.out
            refine (at_is _ b n 0 _ _ hlx2 hn6 ho2 hav0).mono ?_
            rintro e w4 ⟨rfl, rfl⟩
            go_wp2_with fail
            refine (at_is _ b n 0 _ _ hlx2 hn6 ho2 hav0).mono ?_
            rintro e w4 ⟨rfl, rfl⟩
            have Ho2 := Lib.hid ho2
            clear ho2 hav0
            go_wp2_with fail
            go_loop [10, 11, 12, 13, 61, 62, 63, 64, 65, 66, 67, 68, 69, 70, 71, 72, 73, 74, 75, 76, 77, 78, 79, 80] (fun l h s i _ _ _ _ _ _ _ _ _ _ _ _ _ _ _ _ _ _ _ _ => ∃ j : Nat, j ≤ n ∧ i = .int .i64 j ∧ l = .int .i64 (lo xs2 j) ∧ h = .int .i64 (hi xs2 j) ∧ s = .int .i64 (sm xs2 j))
              (fun l h s i _ _ _ _ _ _ _ _ _ _ _ _ _ _ _ _ _ _ _ _ => n - (intOf i).toNat)
            case atStart => exact ⟨0, by omega, rfl, by rw [← H0.out]; rfl, by rw [← H0.out]; rfl, rfl⟩
            case round =>
              obtain ⟨j, hj, rfl, rfl, rfl, rfl⟩ := hrel
              by_cases hjn : j < n
              · have hat := at_is wo b n j _ _ hlx2 hn6 Ho2.out (av_at hjn)
                have hlo : lo xs2 (j + 1) = min (lo xs2 j) (xs2.getD j 0) := rfl
                have hhi : hi xs2 (j + 1) = max (hi xs2 j) (xs2.getD j 0) := rfl
                have hsm' : sm xs2 (j + 1) = sm xs2 j + xs2.getD j 0 := rfl
                have hy := hix2 j
                have hsmj := sm_le hix2 hk301 (by omega : j ≤ 6)
                have hlh := lohi_in hix2 j
                generalize xs2.getD j 0 = y at *
                have HAT := Lib.hid hat
                have HLO := Lib.hid hlo
                have HHI := Lib.hid hhi
                have HSM := Lib.hid hsm'
                clear hat hm2 hlo hhi hsm'
                by_cases ca : lo xs2 j ≤ y <;> by_cases cb : y ≤ hi xs2 j
                all_goals
                  go_wp2_with fail
                  refine (HAT.out).mono ?_
                  rintro e w4 ⟨rfl, rfl⟩
                  go_wp2_with fail
                  refine (HAT.out).mono ?_
                  rintro e w4 ⟨rfl, rfl⟩
                  go_wp2_with fail
                  refine (HAT.out).mono ?_
                  rintro e w4 ⟨rfl, rfl⟩
                  go_wp2_with fail
                  go_round
                  case rel => exact ⟨j + 1, by omega, by go_num, by rw [HLO.out]; exact congrArg _ (by omega), by rw [HHI.out]; exact congrArg _ (by omega), by rw [HSM.out]⟩
                  case measure => simp [intOf]; omega
              · obtain rfl : j = n := by omega
                have hhl := hi_lo hnr2 hn1
                have hln := lo_nx xs2 j hn1
                have hlh := lohi_in hix2 j
                have hnl := nx_lt xs2 j
                have hnxt := next_is wo b j xs2 _ hlx2 hn1 hn6 Ho2.out rfl
                have hT : sm xs2 j = T := HT.out
                rw [hT]
                clear hT
                generalize hi xs2 j = H at *
                generalize hL : lo xs2 j = L at *
                have HL := Lib.hid hL
                have HLN := Lib.hid hln
                have HNX := Lib.hid hnxt
                clear hL hln hnxt
                have hd : decide (2 < H - L) = false := by simp; omega
                go_wp2_with fail
                refine (HNX.out).mono ?_
                rintro e w5 ⟨rfl, ho5, hm5⟩
                replace hm5 := hm2.trans' hm5 (fun _ _ h => h.elim)
                clear hm2
                go_wp2_with fail
                refine (at_is _ b j (nx xs2 j : Nat) _ L hlx2 hn6 ho5 (by rw [av_at (by omega)]; exact HLN.out.symm)).mono ?_
                rintro e w6 ⟨rfl, rfl⟩
                go_wp2_with fail
                go_roundw
                case rel => exact ⟨k + 1, xs2, by omega, by omega, by go_num, by rw [HT.out], hlx2, hix2, hnr2, ho5, hm5⟩
                case measure => simp [intOf]; omega
          · have hlx2 : (tl xs n (z % n)).length = 6 := by rw [tl_len]; exact hlx
            have hix2 : In ((k + 1 : Nat) : Int) (tl xs n (z % n)) := by have := hix.tl n (z % n); exact this
            have hnr2 : Near n (tl xs n (z % n)) := near_tl hnr (by omega) _
            have hs2 := sm_tl (n := n) (xs := xs) (by omega) (z % n)
            rw [if_neg ht, Int.add_zero] at hs2
            have Hs2 := Lib.hid hs2
            have hs2b : 0 ≤ sm xs n ∧ sm xs n ≤ 2000 := sm_le hix (by omega) hn6
            have htick := tick_is wr b n (z % n) xs _ false hlx hn6 ho (hix.mono (by omega)) (by simpa using ht) rfl
            have HTK := Lib.hid htick
            clear hs2 hix hnr hsm htick ho ht
            generalize tl xs n (z % n) = xs2 at *
            go_wp2_with fail
            refine (HTK.out).mono ?_
            rintro e w3 ⟨rfl, ho2, hm2⟩
            replace hm2 := hm.trans' hm2 (by rintro i _ rfl; exact hbb)
            clear hm HTK
            have hk301 : ((k + 1 : Nat) : Int) ≤ 301 := by omega
            go_wp2_with fail
            generalize sm xs n = T at *
            have HT := Hs2
            clear Hs2
            obtain ⟨wo, hwo⟩ : ∃ wo, wo = w3 := ⟨_, rfl⟩
            subst hwo
            obtain ⟨x0, H0⟩ : ∃ x0, Hid (xs2.getD 0 0 = x0) := ⟨_, rfl⟩
            have hav0 : av xs2 n (0 : Nat) = x0 := by rw [av_at (by omega)]; exact H0.out
            refine (at_is _ b n 0 _ _ hlx2 hn6 ho2 hav0).mono ?_
            rintro e w4 ⟨rfl, rfl⟩
            go_wp2_with fail
            refine (at_is _ b n 0 _ _ hlx2 hn6 ho2 hav0).mono ?_
            rintro e w4 ⟨rfl, rfl⟩
            have Ho2 := Lib.hid ho2
            clear ho2 hav0
            go_wp2_with fail
            go_loop [10, 11, 12, 13, 61, 62, 63, 64, 65, 66, 67, 68, 69, 70, 71, 72, 73, 74, 75, 76, 77, 78, 79, 80] (fun l h s i _ _ _ _ _ _ _ _ _ _ _ _ _ _ _ _ _ _ _ _ => ∃ j : Nat, j ≤ n ∧ i = .int .i64 j ∧ l = .int .i64 (lo xs2 j) ∧ h = .int .i64 (hi xs2 j) ∧ s = .int .i64 (sm xs2 j))
              (fun l h s i _ _ _ _ _ _ _ _ _ _ _ _ _ _ _ _ _ _ _ _ => n - (intOf i).toNat)
            case atStart => exact ⟨0, by omega, rfl, by rw [← H0.out]; rfl, by rw [← H0.out]; rfl, rfl⟩
            case round =>
              obtain ⟨j, hj, rfl, rfl, rfl, rfl⟩ := hrel
              by_cases hjn : j < n
              · have hat := at_is wo b n j _ _ hlx2 hn6 Ho2.out (av_at hjn)
                have hlo : lo xs2 (j + 1) = min (lo xs2 j) (xs2.getD j 0) := rfl
                have hhi : hi xs2 (j + 1) = max (hi xs2 j) (xs2.getD j 0) := rfl
                have hsm' : sm xs2 (j + 1) = sm xs2 j + xs2.getD j 0 := rfl
                have hy := hix2 j
                have hsmj := sm_le hix2 hk301 (by omega : j ≤ 6)
                have hlh := lohi_in hix2 j
                generalize xs2.getD j 0 = y at *
                have HAT := Lib.hid hat
                have HLO := Lib.hid hlo
                have HHI := Lib.hid hhi
                have HSM := Lib.hid hsm'
                clear hat hm2 hlo hhi hsm'
                by_cases ca : lo xs2 j ≤ y <;> by_cases cb : y ≤ hi xs2 j
                all_goals
                  go_wp2_with fail
                  refine (HAT.out).mono ?_
                  rintro e w4 ⟨rfl, rfl⟩
                  go_wp2_with fail
                  refine (HAT.out).mono ?_
                  rintro e w4 ⟨rfl, rfl⟩
                  go_wp2_with fail
                  refine (HAT.out).mono ?_
                  rintro e w4 ⟨rfl, rfl⟩
                  go_wp2_with fail
                  go_round
                  case rel => exact ⟨j + 1, by omega, by go_num, by rw [HLO.out]; exact congrArg _ (by omega), by rw [HHI.out]; exact congrArg _ (by omega), by rw [HSM.out]⟩
                  case measure => simp [intOf]; omega
              · obtain rfl : j = n := by omega
                have hhl := hi_lo hnr2 hn1
                have hln := lo_nx xs2 j hn1
                have hlh := lohi_in hix2 j
                have hnl := nx_lt xs2 j
                have hnxt := next_is wo b j xs2 _ hlx2 hn1 hn6 Ho2.out rfl
                have hT : sm xs2 j = T := HT.out
                rw [hT]
                clear hT
                generalize hi xs2 j = H at *
                generalize hL : lo xs2 j = L at *
                have HL := Lib.hid hL
                have HLN := Lib.hid hln
                have HNX := Lib.hid hnxt
                clear hL hln hnxt
                have hd : decide (2 < H - L) = false := by simp; omega
                go_wp2_with fail
                refine (HNX.out).mono ?_
                rintro e w5 ⟨rfl, ho5, hm5⟩
                replace hm5 := hm2.trans' hm5 (fun _ _ h => h.elim)
                clear hm2
                go_wp2_with fail
                refine (at_is _ b j (nx xs2 j : Nat) _ L hlx2 hn6 ho5 (by rw [av_at (by omega)]; exact HLN.out.symm)).mono ?_
                rintro e w6 ⟨rfl, rfl⟩
                go_wp2_with fail
                go_roundw
                case rel => exact ⟨k + 1, xs2, by omega, by omega, by go_num, by rw [HT.out], hlx2, hix2, hnr2, ho5, hm5⟩
                case measure => simp [intOf]; omega
      · obtain rfl : k = 300 := by omega
        go_wp2_with fail
        go_ret
        exact ⟨rfl, hm.mono (fun i hi h => absurd HB.out (by omega))⟩
    · obtain rfl : k = len := by omega
      go_wp2_with fail
      go_ret
      exact ⟨rfl, hm.mono (fun i hi h => absurd HB.out (by omega))⟩

set_option maxRecDepth 100000 in
theorem near_nil (o : Option Addr) (cap : Nat) (a1 : Int) (w : World) (ha0 : 0 ≤ a1) (ha1 : a1 ≤ 255) :
    Calls Try.prog 4 #[.slice o 0 cap, .int .u8 a1] w fun e w' => e = .returned (.bool true) ∧ Mod (fun _ => False) w w' := by
  obtain ⟨n, Hn⟩ : ∃ n : Nat, Hid (1 + a1 % 6 = (n : Int)) := ⟨(1 + a1 % 6).toNat, by show _ = _; omega⟩
  have hn1 : 1 ≤ n := by have : 1 + a1 % 6 = (n : Int) := Hn.out; omega
  have hn6 : n ≤ 6 := by have : 1 + a1 % 6 = (n : Int) := Hn.out; omega
  go_enter Try.func4, Try.ntmps4
  go_wp2_with fail
  refine (works_any _).mono ?_
  rintro e w0 ⟨rfl, m0⟩
  go_wp2_with fail
  rw [Hn.out]
  refine (new_in _ n hn1 hn6).mono ?_
  rintro e w1 ⟨rfl, hw1⟩
  have m1 : Mod (fun _ => False) w w1 := by rw [hw1]; exact m0.alloc _
  clear hw1 m0
  go_wp2_with fail
  go_loopw [7, 8, 9, 10, 11, 12, 13, 22, 23, 24, 25, 26, 27, 28, 29, 30, 31, 32, 33, 34, 35, 36, 37, 38, 39, 40, 41, 42, 43, 44, 45, 46, 47, 48, 49, 50, 51, 52, 53, 54, 55, 56, 57, 58, 59, 60, 61, 62, 63, 64, 65, 66, 67, 68, 69, 70, 71, 72, 73, 74, 75, 76, 77, 78, 79, 80, 81, 82, 83, 84, 85, 86, 87, 88, 89, 90, 91, 92, 93, 94, 95, 96, 97] (fun _ i _ _ _ _ _ _ _ _ _ _ _ _ _ _ _ _ _ _ _ _ _ _ _ _ _ _ _ _ _ _ _ _ _ _ _ _ _ _ _ _ _ _ _ _ _ _ _ _ _ _ _ _ _ _ _ _ _ _ _ _ _ _ _ _ _ _ _ _ _ _ _ _ _ _ _ _ _ _ _ _ _ wr => i = .int .i64 0 ∧ wr = w1)
    (fun _ _ _ _ _ _ _ _ _ _ _ _ _ _ _ _ _ _ _ _ _ _ _ _ _ _ _ _ _ _ _ _ _ _ _ _ _ _ _ _ _ _ _ _ _ _ _ _ _ _ _ _ _ _ _ _ _ _ _ _ _ _ _ _ _ _ _ _ _ _ _ _ _ _ _ _ _ _ _ _ _ _ _ _ => 0)
  case atStart => exact ⟨rfl, rfl⟩
  case round =>
    obtain ⟨rfl, rfl⟩ := hrel
    go_wp2_with fail
    go_ret
    exact ⟨rfl, m1⟩
end Go.Proofs.Ytfkgampnkpjicaa
