/- Clock: ClockTicks, walked. -/
import Derived.Test.YtfkgampnkpjicaaWorks
namespace Go.Proofs.Ytfkgampnkpjicaa
open Go.RowKit Go.Wd

/-- The clocks behind so many of a list's ticks. -/
def run (n : Nat) (xs : List Int) (zs : List Int) : Nat → List Int
  | 0 => xs
  | k + 1 => tl (run n xs zs k) n (zs.getD k 0)

theorem run_len (n : Nat) (xs zs : List Int) (k : Nat) : (run n xs zs k).length = xs.length := by
  induction k with
  | zero => rfl
  | succ k ih => simp [run, tl_len, ih]
theorem run_in (n : Nat) (zs : List Int) (k : Nat) : In k (run n [0,0,0,0,0,0] zs k) := by
  induction k with
  | zero => exact st_in 1 0
  | succ k ih => have := ih.tl n (zs.getD k 0); exact this

/-- Both clocks in one world: the program's and the document's; and a cell of the argument. -/
structure Two (B : Nat) (w W : World) (b rb lb n : Nat) (xs ys : List Int) (a : Addr) (v : Value) : Prop where
  p : Own W b (clk xs n) 36
  r : Own W rb (hold lb n) 39
  l : Own W lb (row ys) 2
  m : Mod (fun k => B ≤ k) w W
  c : W.cell? a = some v
  ha : a.block < B
  hb : B ≤ b
  hr : B ≤ rb
  hl : B ≤ lb
  e1 : b ≠ rb
  e2 : b ≠ lb
  e3 : rb ≠ lb
  lx : xs.length = 6
  ly : ys.length = n
  ix : In 999 xs
  iy : In 999 ys

variable {B : Nat} {w W : World} {b rb lb n : Nat} {xs ys : List Int} {a : Addr} {v : Value}

theorem cell_mod {S : Nat → Prop} {W W' : World} {a : Addr} {v : Value} (h : W.cell? a = some v) (hm : Mod S W W') (hs : ¬ S a.block) : W'.cell? a = some v :=
  (World.cell?_of_block (w := W) (hm.block a.block (World.block_lt_of_cell? W a h) hs)).trans h

theorem Two.drew (h : Two B w W b rb lb n xs ys a v) : Two B w W.drew b rb lb n xs ys a v :=
  { h with p := h.p, r := h.r, l := h.l, m := h.m.drew, c := h.c }

theorem Two.drewN (h : Two B w W b rb lb n xs ys a v) (q : Nat) : Two B w (W.drewN q) b rb lb n xs ys a v :=
  { h with p := h.p, r := h.r, l := h.l, m := h.m.drewN q, c := h.c }

theorem two_tick (h : Two B w W b rb lb n xs ys a v) (h6 : n ≤ 6) (hi : In 998 xs) (node : Int) :
    Calls Try.prog 9 #[.pointer (some ⟨b, 0, none⟩), .int .i64 node] W fun e w' => e = .returned (.bool (tk xs n node)) ∧ Two B w w' b rb lb n (tl xs n node) ys a v := by
  refine (tick_any W b n node xs h.lx h6 h.p (hi.mono (by omega))).mono ?_
  rintro e w' ⟨rfl, ho, hm⟩
  exact ⟨rfl, { h with p := ho, r := h.r.mod hm (fun e => h.e1 e.symm), l := h.l.mod hm (fun e => h.e2 e.symm), m := h.m.trans' hm (by rintro i _ rfl; exact h.hb), c := cell_mod h.c hm (by have := h.ha; have := h.hb; omega), lx := by rw [tl_len]; exact h.lx, ix := (hi.tl n node).mono (by omega) }⟩

theorem two_rtick (h : Two B w W b rb lb n xs ys a v) (h6 : n ≤ 6) {x0 : List Int} (hy : ys = x0.take n) (hi : In 998 ys) (node : Int) :
    Calls Try.prog 10 #[.pointer (some ⟨rb, 0, none⟩), .int .i64 node] W fun e w' => e = .returned (.bool (tk x0 n node)) ∧ Two B w w' b rb lb n xs ((tl x0 n node).take n) a v := by
  subst hy
  refine (rtick_any W rb lb n node _ h.ly h6 h.r h.l (hi.mono (by omega))).mono ?_
  rw [tk_take, tl_take]
  have hl2 : ((tl x0 n node).take n).length = n := by rw [← tl_take, tl_len]; exact h.ly
  have hi2 := hi.tl n node
  rw [tl_take] at hi2
  rintro e w' ⟨rfl, ho, hm⟩
  exact ⟨rfl, { h with p := h.p.mod hm h.e2, r := h.r.mod hm h.e3, l := ho, m := h.m.trans' hm (by rintro i _ rfl; exact h.hl), c := cell_mod h.c hm (by have := h.ha; have := h.hl; omega), ly := hl2, iy := hi2.mono (by omega) }⟩

theorem two_at (h : Two B w W b rb lb n xs ys a v) (h6 : n ≤ 6) (node : Int) :
    Calls Try.prog 11 #[.pointer (some ⟨b, 0, none⟩), .int .i64 node] W fun e w' => e = .returned (.int .i64 (av xs n node)) ∧ Two B w w' b rb lb n xs ys a v := by
  refine (at_any W b n node xs h.lx h6 h.p).mono ?_
  rintro e w' ⟨rfl, rfl⟩
  exact ⟨rfl, h⟩

theorem two_rat (h : Two B w W b rb lb n xs (xs.take n) a v) (node : Int) :
    Calls Try.prog 12 #[.pointer (some ⟨rb, 0, none⟩), .int .i64 node] W fun e w' => e = .returned (.int .i64 (av xs n node)) ∧ Two B w w' b rb lb n xs (xs.take n) a v := by
  refine (rat_any W rb lb n node _ h.ly h.r h.l).mono ?_
  rw [av_take]
  rintro e w' ⟨rfl, q, rfl⟩
  exact ⟨rfl, h.drewN q⟩

theorem two_next (h : Two B w W b rb lb n xs ys a v) (h1 : 1 ≤ n) (h6 : n ≤ 6) :
    Calls Try.prog 13 #[.pointer (some ⟨b, 0, none⟩)] W fun e w' => e = .returned (.int .i64 (nx xs n)) ∧ Two B w w' b rb lb n xs ys a v := by
  refine (next_is W b n xs _ h.lx h1 h6 h.p rfl).mono ?_
  rintro e w' ⟨rfl, ho, hm⟩
  exact ⟨rfl, { h with p := ho, r := h.r.mod hm id, l := h.l.mod hm id, m := h.m.trans' hm (fun _ _ h => h.elim), c := cell_mod h.c hm id }⟩

theorem two_rnext (h : Two B w W b rb lb n xs (xs.take n) a v) (h1 : 1 ≤ n) (h6 : n ≤ 6) :
    Calls Try.prog 14 #[.pointer (some ⟨rb, 0, none⟩)] W fun e w' => e = .returned (.int .i64 (nx xs n)) ∧ Two B w w' b rb lb n xs (xs.take n) a v := by
  refine (rnext_any W rb lb n _ h.ly h1 h6 h.r h.l).mono ?_
  rw [nx_take xs n n (Nat.le_refl _)]
  rintro e w' ⟨rfl, q, rfl⟩
  exact ⟨rfl, h.drewN q⟩

/-- What the loop keeps. -/
def Inv (B : Nat) (w W : World) (b rb lb n : Nat) (xs : List Int) : Prop :=
  Own W b (clk xs n) 36 ∧ Own W rb (hold lb n) 39 ∧ Own W lb (row (xs.take n)) 2 ∧ Mod (fun k => B ≤ k) w W

set_option maxRecDepth 100000 in
set_option maxHeartbeats 4000000 in
theorem ticks_walk (B0 off len cap : Nat) (zs : List Int) (n : Nat) (w : World) (h1 : 1 ≤ n) (h6 : n ≤ 6) (hlc : len ≤ cap) (hz : zs.length = cap)
    (hcell : ∀ i, i < zs.length → w.cell? ⟨B0, off + i, none⟩ = some (.int .i64 (zs.getD i 0))) :
    Calls Try.prog 3 #[.slice (some ⟨B0, off, none⟩) len cap, .int .i64 n] w fun e w' => e = .returned (.bool true) ∧ Mod (fun _ => False) w w' := by
  obtain ⟨B, HB⟩ : ∃ B, Hid (w.heap.size = B) := ⟨_, rfl⟩
  go_enter Try.func3, Try.ntmps3
  go_wp2_with fail
  refine (new_in _ n h1 h6).mono ?_
  rintro e w1 ⟨rfl, hw1⟩
  have o1 : Own w1 w.heap.size (clk [0,0,0,0,0,0] n) 36 := by rw [hw1]; exact Own.new _ _ _
  have m1 : Mod (fun k => B ≤ k) w w1 := by rw [hw1]; exact (Mod.refl _ _).alloc _
  have e1 : w1.heap.size = w.heap.size + 1 := by rw [hw1]; simp
  have hbl : w.heap.size < w1.heap.size := by omega
  have hbb : B ≤ w.heap.size := by rw [HB.out]; exact Nat.le_refl _
  clear hw1 e1
  generalize w.heap.size = b at o1 hbb hbl ⊢
  go_wp2_with fail
  refine (rnew_in _ n h1 h6).mono ?_
  rintro e w2 ⟨rfl, hw2⟩
  have o2 : Own w2 b (clk [0,0,0,0,0,0] n) 36 := by rw [hw2]; exact (o1.alloc _).alloc _
  have m2 : Mod (fun k => B ≤ k) w w2 := by rw [hw2]; exact (m1.alloc _).alloc _
  have l2 : Own w2 w1.heap.size (row (List.replicate n 0)) 2 := by rw [hw2]; exact (Own.new _ _ _).alloc _
  have r2 : Own w2 (w1.heap.size + 1) (hold w1.heap.size n) 39 := by
    rw [hw2]
    have := Own.new (w1.alloc (.cells (row (List.replicate n 0)) 2)) (hold w1.heap.size n) 39
    simpa using this
  have er : (List.replicate n (0 : Int)) = ([0,0,0,0,0,0] : List Int).take n := by
    match n, h1, h6 with
    | 1, _, _ | 2, _, _ | 3, _, _ | 4, _, _ | 5, _, _ | 6, _, _ => rfl
  rw [er] at l2
  have hi2 : Inv B w w2 b (w1.heap.size + 1) w1.heap.size n [0,0,0,0,0,0] := ⟨o2, r2, l2, m2⟩
  clear hw2 o1 m1 o2 m2 l2 r2 er
  generalize w1.heap.size = lb at hi2 hbl ⊢
  have hbr : b ≠ lb + 1 := by omega
  have hbr2 : lb + 1 ≠ lb := by omega
  have hbr3 : b ≠ lb := by omega
  have hrb : B ≤ lb + 1 := by omega
  have hlb : B ≤ lb := by omega
  have HI := Lib.hid hi2
  clear hi2
  obtain ⟨rb, Hrb⟩ : ∃ rb, Hid (lb + 1 = rb) := ⟨_, rfl⟩
  rw [Hrb.out] at hbr hbr2 hrb HI ⊢
  go_wp2_with fail
  go_loopw [7, 27, 28, 29, 30, 31, 32, 33, 34, 35, 36, 37, 38, 39, 40, 41, 42, 43, 44, 45, 46, 47, 48, 49, 50, 51, 52, 53, 54, 55, 56, 57, 58, 59, 60, 61, 62, 63, 64, 65, 66, 67, 68, 69, 70, 71] (fun i _ _ _ _ _ _ _ _ _ _ _ _ _ _ _ _ _ _ _ _ _ _ _ _ _ _ _ _ _ _ _ _ _ _ _ _ _ _ _ _ _ _ _ _ _ wr =>
      ∃ k : Nat, k ≤ 300 ∧ k ≤ len ∧ i = .int .i64 k ∧ Inv B w wr b rb lb n (run n [0,0,0,0,0,0] zs k))
    (fun i _ _ _ _ _ _ _ _ _ _ _ _ _ _ _ _ _ _ _ _ _ _ _ _ _ _ _ _ _ _ _ _ _ _ _ _ _ _ _ _ _ _ _ _ _ _ => 300 - (intOf i).toNat)
  case atStart => exact ⟨0, by omega, by omega, rfl, HI.out⟩
  case round =>
    obtain ⟨k, hk, hkl, rfl, hI⟩ := hrel
    by_cases hlt : k < len
    · by_cases hlt2 : k < 300
      · have hc := hcell k (by omega)
        have hB0 : B0 < B := by rw [← HB.out]; exact World.block_lt_of_cell? w _ hc
        have hx := run_in n zs k
        have hlx := run_len n [0,0,0,0,0,0] zs k
        have hrun : Hid (run n [0,0,0,0,0,0] zs (k + 1) = tl (run n [0,0,0,0,0,0] zs k) n (zs.getD k 0)) := rfl
        generalize zs.getD k 0 = z at *
        generalize run n [0,0,0,0,0,0] zs k = xs at *
        have hT : Two B w wr b rb lb n xs (xs.take n) ⟨B0, off + k, none⟩ (.int .i64 z) :=
          ⟨hI.1, hI.2.1, hI.2.2.1, hI.2.2.2, cell_mod hc hI.2.2.2 (by simp; omega), hB0, hbb, hrb, hlb, hbr, hbr3, hbr2, hlx, by simp [hlx]; omega, hx.mono (by omega), (in_take hx (by omega) n).mono (by omega)⟩
        have hi1 : In 998 xs := hx.mono (by omega)
        have hi2 : In 998 (xs.take n) := in_take hi1 (by omega) n
        have hkk : (k : Int) < len := by omega
        have hk0 : (0 : Int) ≤ k := by omega
        clear hc hI hcell HI HB hx hlx
        have hTc := hT.c
        go_wp2_with fail
        go_region_held3 (fun w' => w'.cell? ⟨B0, off + k, none⟩ = some (.int .i64 z))
          (first | exact hT6.c | exact hT5.c | exact hT4.c | exact hT3.c | exact hT2.c | exact hT1.c | exact hT.drew.c)
          (first
            | (go_at_call 9; refine (two_tick hT.drew h6 hi1 z).mono ?_; rintro e w' ⟨rfl, hT1⟩)
            | (go_at_call 10; refine (two_rtick hT1 h6 rfl hi2 z).mono ?_; rintro e w' ⟨rfl, hT2⟩)
            | (go_at_call 11; refine (two_at hT2 h6 z).mono ?_; rintro e w' ⟨rfl, hT3⟩)
            | (go_at_call 12; refine (two_rat hT3 z).mono ?_; rintro e w' ⟨rfl, hT4⟩)
            | (go_at_call 13; refine (two_next hT4 h1 h6).mono ?_; rintro e w' ⟨rfl, hT5⟩)
            | (go_at_call 14; refine (two_rnext hT5 h1 h6).mono ?_; rintro e w' ⟨rfl, hT6⟩))
        go_wp2_with fail
        go_roundw
        case rel => exact ⟨k + 1, by omega, by omega, by go_num, by rw [hrun.out]; exact ⟨hT6.p, hT6.r, hT6.l, hT6.m⟩⟩
        case measure => simp [intOf]; omega
      · obtain rfl : k = 300 := by omega
        go_wp2_with fail
        refine (works_any _).mono ?_
        rintro e w3 ⟨rfl, m3⟩
        go_wp2_with fail
        go_ret
        exact ⟨rfl, (hI.2.2.2.trans' m3 (fun _ _ h => h.elim)).mono (fun i hi h => absurd HB.out (by omega))⟩
    · obtain rfl : k = len := by omega
      go_wp2_with fail
      refine (works_any _).mono ?_
      rintro e w3 ⟨rfl, m3⟩
      go_wp2_with fail
      go_ret
      exact ⟨rfl, (hI.2.2.2.trans' m3 (fun _ _ h => h.elim)).mono (fun i hi h => absurd HB.out (by omega))⟩

set_option maxRecDepth 100000 in
theorem ticks_nil (o : Option Addr) (cap n : Nat) (w : World) (h1 : 1 ≤ n) (h6 : n ≤ 6) :
    Calls Try.prog 3 #[.slice o 0 cap, .int .i64 n] w fun e w' => e = .returned (.bool true) ∧ Mod (fun _ => False) w w' := by
  go_enter Try.func3, Try.ntmps3
  go_wp2_with fail
  refine (new_in _ n h1 h6).mono ?_
  rintro e w1 ⟨rfl, hw1⟩
  have m1 : Mod (fun _ => False) w w1 := by rw [hw1]; exact (Mod.refl _ _).alloc _
  clear hw1
  go_wp2_with fail
  refine (rnew_in _ n h1 h6).mono ?_
  rintro e w2 ⟨rfl, hw2⟩
  have m2 : Mod (fun _ => False) w w2 := by rw [hw2]; exact (m1.alloc _).alloc _
  clear hw2
  go_wp2_with fail
  go_loopw [7, 27, 28, 29, 30, 31, 32, 33, 34, 35, 36, 37, 38, 39, 40, 41, 42, 43, 44, 45, 46, 47, 48, 49, 50, 51, 52, 53, 54, 55, 56, 57, 58, 59, 60, 61, 62, 63, 64, 65, 66, 67, 68, 69, 70, 71] (fun i _ _ _ _ _ _ _ _ _ _ _ _ _ _ _ _ _ _ _ _ _ _ _ _ _ _ _ _ _ _ _ _ _ _ _ _ _ _ _ _ _ _ _ _ _ wr =>
      i = .int .i64 0 ∧ wr = w2)
    (fun _ _ _ _ _ _ _ _ _ _ _ _ _ _ _ _ _ _ _ _ _ _ _ _ _ _ _ _ _ _ _ _ _ _ _ _ _ _ _ _ _ _ _ _ _ _ _ => 0)
  case atStart => exact ⟨rfl, rfl⟩
  case round =>
    obtain ⟨rfl, rfl⟩ := hrel
    go_wp2_with fail
    refine (works_any _).mono ?_
    rintro e w3 ⟨rfl, m3⟩
    go_wp2_with fail
    go_ret
    exact ⟨rfl, m2.trans m3⟩

theorem ticks_out (v : Value) (n : Int) (w : World) (h : n < 1 ∨ 6 < n) :
    Calls Try.prog 3 #[v, .int .i64 n] w fun e w' => e = .returned (.bool true) ∧ Mod (fun _ => False) w w' := by
  go_enter Try.func3, Try.ntmps3
  go_wp2_with fail
  refine (new_out _ n h).mono ?_
  rintro e w1 ⟨rfl, rfl⟩
  go_wp2_with fail
  refine (rnew_out _ n h).mono ?_
  rintro e w1 ⟨rfl, rfl⟩
  go_wp2_with fail
  refine (works_any _).mono ?_
  rintro e w3 ⟨rfl, m3⟩
  go_wp2_with fail
  go_ret
  exact ⟨rfl, m3⟩
end Go.Proofs.Ytfkgampnkpjicaa
