/- Clock: contracts of the functions. -/
import Derived.Test.YtfkgampnkpjicaaProg
import Derived.WalkKit
import Derived.ProofKit
import Derived.WalkLawsBesides
import Derived.WalkSpells
import Derived.Outline
import Derived.Deep.QuietTactic
import Derived.BigQuiet
import Derived.RegionTactic
import Derived.ChangeAlike
import Derived.Lib.Hide
import Derived.Deep.RegionHeld3
import Derived.BigRegion
import Derived.Test.YtfkgampnkpjicaaBase
namespace Go.Proofs.Ytfkgampnkpjicaa
open Go.RowKit Go.Wd

theorem slower_any (w : World) (bc bb b : Nat) (node best : Nat) (xs : List Int) (hn : node < 6) (hbest : best < 6)
    (hc : w.cell? ⟨bc, 0, none⟩ = some (.pointer (some ⟨b, 0, none⟩)))
    (hb : w.cell? ⟨bb, 0, none⟩ = some (.int .i64 best))
    (h1 : w.cell? ⟨b, node, none⟩ = some (.int .i64 (xs.getD node 0)))
    (h2 : w.cell? ⟨b, best, none⟩ = some (.int .i64 (xs.getD best 0))) :
    Calls Try.prog 16 #[.int .i64 node, .pointer (some ⟨bc, 0, none⟩), .pointer (some ⟨bb, 0, none⟩)] w fun e w' =>
      e = .returned (.bool (decide (xs.getD node 0 < xs.getD best 0))) ∧ ∃ n, w' = w.drewN n := by
  go_enter Try.func16, Try.ntmps16
  go_wp2
  go_quiet (fail)
  go_wp2
  go_ret
  exact ⟨rfl, _, rfl⟩

def nx (xs : List Int) : Nat → Nat
  | 0 => 0
  | k + 1 => if xs.getD k 0 < xs.getD (nx xs k) 0 then k else nx xs k

theorem nx_lt (xs : List Int) (k : Nat) : nx xs k < k ∨ nx xs k = 0 := by
  induction k with
  | zero => right; rfl
  | succ k ih => unfold nx; split <;> omega

theorem nx_succ_lt {xs : List Int} {k : Nat} (h : xs.getD k 0 < xs.getD (nx xs k) 0) : nx xs (k + 1) = k := by simp only [nx]; rw [if_pos h]
theorem nx_succ_ge {xs : List Int} {k : Nat} (h : ¬ xs.getD k 0 < xs.getD (nx xs k) 0) : nx xs (k + 1) = nx xs k := by simp only [nx]; rw [if_neg h]

theorem next_any (w : World) (b n : Nat) (xs : List Int) (h1 : 1 ≤ n) (h6 : n ≤ 6)
    (hcell : ∀ i, i < 6 → w.cell? ⟨b, i, none⟩ = some (.int .i64 (xs.getD i 0)))
    (hcn : w.cell? ⟨b, 6, none⟩ = some (.int .i64 n)) :
    Calls Try.prog 13 #[.pointer (some ⟨b, 0, none⟩)] w fun e w' =>
      e = .returned (.int .i64 (nx xs n)) ∧ Below w.heap.size w w' := by
  have hlt : b < w.heap.size := World.block_lt_of_cell? w ⟨b, 6, none⟩ hcn
  go_enter Try.func13, Try.ntmps13
  go_wp2_with fail
  go_loopw [5, 13, 14, 15, 16, 17, 18, 19, 20] (fun _ i _ _ _ _ _ _ _ wr => ∃ k nq : Nat, k ≤ n ∧ i = .int .i64 k ∧
      wr = ((w.alloc (Obj.cells #[Value.pointer (some { block := b, off := 0 })] 23)).alloc (Obj.cells #[Value.int IntKind.i64 (nx xs k)] 3)).drewN nq)
    (fun _ i _ _ _ _ _ _ _ _ => n - (intOf i).toNat)
  case atStart => exact ⟨0, 0, by omega, rfl, rfl⟩
  case round =>
    obtain ⟨k, nq, hk, rfl, rfl⟩ := hrel
    by_cases hlt' : k < n
    · have hb6 : nx xs k < 6 := by have := nx_lt xs k; omega
      have c1 := hcell k (by omega)
      have c2 := hcell (nx xs k) hb6
      have hne : b ≠ w.heap.size := by omega
      have hne2 : b ≠ w.heap.size + 1 := by omega
      go_wp2_with fail
      refine (slower_any _ w.heap.size (w.heap.size + 1) b k (nx xs k) xs (by omega) hb6 ?_ ?_ ?_ ?_).mono ?_
      · go_simp
      · go_simp
      · go_simp
      · go_simp
      · rintro e w' ⟨rfl, n2, rfl⟩
        by_cases hs : xs.getD k 0 < xs.getD (nx xs k) 0
        · have hd : decide (xs.getD k 0 < xs.getD (nx xs k) 0) = true := by simpa using hs
          rw [hd]
          go_wp2_with fail
          go_roundw
          case rel => 
            refine ⟨k + 1, nq + n2, by omega, by go_num, ?_⟩
            rw [nx_succ_lt hs, setCell_drewN, World.setCell_alloc_at _ _ _ _ _ (by simp)]
            rfl
          case measure => simp [intOf]; omega
        · have hd : decide (xs.getD k 0 < xs.getD (nx xs k) 0) = false := by simpa using hs
          rw [hd]
          go_wp2_with fail
          go_roundw
          case rel => 
            refine ⟨k + 1, nq + n2, by omega, by go_num, ?_⟩
            rw [nx_succ_ge (by omega)]
          case measure => simp [intOf]; omega
    · obtain rfl : k = n := by omega
      go_wp2_with fail
      go_ret
      exact ⟨rfl, below_drewN (((Below.refl _ _).alloc (Nat.le_refl _) _).alloc (by simp) _) _⟩

/-- The program's clocks: a block of seven cells. -/
def clk (xs : List Int) (n : Nat) : Array Value := ⟨xs.map (Value.int .i64) ++ [.int .i64 n]⟩

theorem clk_cell {xs : List Int} {n i : Nat} (hl : xs.length = 6) (hi : i < 6) : (clk xs n)[i]? = some (.int .i64 (xs.getD i 0)) := by
  have h : i < xs.length := by omega
  simp [clk, List.getElem?_append, h]

theorem clk_n {xs : List Int} {n : Nat} (hl : xs.length = 6) : (clk xs n)[6]? = some (.int .i64 n) := by
  simp [clk, hl]

theorem clk_set {xs : List Int} {n i : Nat} (hl : xs.length = 6) (hi : i < 6) (x : Int) : (clk xs n).setIfInBounds i (.int .i64 x) = clk (xs.set i x) n := by
  simp [clk, hl, hi, List.map_set]

theorem there_in (w : World) (b n : Nat) (node : Int) (xs : List Int) (hl : xs.length = 6) (hO : Own w b (clk xs n) 36) (h0 : 0 ≤ node) (hn : node < n) :
    Calls Try.prog 15 #[.pointer (some ⟨b, 0, none⟩), .int .i64 node] w fun e w' => e = .returned (.bool true) ∧ w = w' := by
  have c6 := hO.cell' (clk_n (n := n) hl)
  clear hO
  go_enter Try.func15, Try.ntmps15
  go_wp2_with fail
  go_ret
  exact ⟨rfl, rfl⟩

theorem there_lo (w : World) (b : Nat) (node : Int) (h0 : node < 0) :
    Calls Try.prog 15 #[.pointer (some ⟨b, 0, none⟩), .int .i64 node] w fun e w' => e = .returned (.bool false) ∧ w = w' := by
  go_enter Try.func15, Try.ntmps15
  go_wp2_with fail
  go_ret
  exact ⟨rfl, rfl⟩

theorem there_hi (w : World) (b n : Nat) (node : Int) (xs : List Int) (hl : xs.length = 6) (hO : Own w b (clk xs n) 36) (h0 : 0 ≤ node) (hn : ¬ node < n) :
    Calls Try.prog 15 #[.pointer (some ⟨b, 0, none⟩), .int .i64 node] w fun e w' => e = .returned (.bool false) ∧ w = w' := by
  have c6 := hO.cell' (clk_n (n := n) hl)
  clear hO
  go_enter Try.func15, Try.ntmps15
  go_wp2_with fail
  go_ret
  exact ⟨rfl, rfl⟩

theorem there_nil (w : World) (node : Int) :
    Calls Try.prog 15 #[.pointer none, .int .i64 node] w fun e w' => e = .returned (.bool false) ∧ w = w' := by
  go_enter Try.func15, Try.ntmps15
  go_wp2_with fail
  go_ret
  exact ⟨rfl, rfl⟩

theorem at_in (w : World) (b n : Nat) (node : Nat) (xs : List Int) (hl : xs.length = 6) (h6 : n ≤ 6) (hO : Own w b (clk xs n) 36) (hn : node < n) :
    Calls Try.prog 11 #[.pointer (some ⟨b, 0, none⟩), .int .i64 node] w fun e w' => e = .returned (.int .i64 (xs.getD node 0)) ∧ w = w' := by
  have cn := hO.cell' (clk_cell (n := n) hl (i := node) (by omega))
  go_enter Try.func11, Try.ntmps11
  go_wp2_with fail
  refine (there_in _ b n node xs hl hO (by omega) (by omega)).mono ?_
  rintro e w' ⟨rfl, rfl⟩
  clear hO
  go_wp2_with fail
  go_ret
  exact ⟨rfl, rfl⟩

theorem at_out (w : World) (b n : Nat) (node : Int) (xs : List Int) (hl : xs.length = 6) (hO : Own w b (clk xs n) 36) (hn : node < 0 ∨ ¬ node < n) :
    Calls Try.prog 11 #[.pointer (some ⟨b, 0, none⟩), .int .i64 node] w fun e w' => e = .returned (.int .i64 0) ∧ w = w' := by
  have hth : Calls Try.prog 15 #[.pointer (some ⟨b, 0, none⟩), .int .i64 node] w fun e w' => e = .returned (.bool false) ∧ w = w' := by
    by_cases h0 : node < 0
    · exact there_lo _ _ _ h0
    · exact there_hi _ _ _ _ _ hl hO (by omega) (by omega)
  clear hO
  go_enter Try.func11, Try.ntmps11
  go_wp2_with fail
  refine hth.mono ?_
  rintro e w' ⟨rfl, rfl⟩
  go_wp2_with fail
  go_ret
  exact ⟨rfl, rfl⟩

theorem at_nil (w : World) (node : Int) :
    Calls Try.prog 11 #[.pointer none, .int .i64 node] w fun e w' => e = .returned (.int .i64 0) ∧ w = w' := by
  go_enter Try.func11, Try.ntmps11
  go_wp2_with fail
  refine (there_nil _ _).mono ?_
  rintro e w' ⟨rfl, rfl⟩
  go_wp2_with fail
  go_ret
  exact ⟨rfl, rfl⟩

theorem next_nil (w : World) :
    Calls Try.prog 13 #[.pointer none] w fun e w' => e = .returned (.int .i64 (-1)) ∧ Below w.heap.size w w' := by
  go_enter Try.func13, Try.ntmps13
  go_wp2_with fail
  go_ret
  exact ⟨rfl, (Below.refl _ _).alloc (Nat.le_refl _) _⟩

theorem new_in (w : World) (n : Nat) (h1 : 1 ≤ n) (h6 : n ≤ 6) :
    Calls Try.prog 6 #[.int .i64 n] w fun e w' => e = .returned (.pointer (some ⟨w.heap.size, 0, none⟩)) ∧ w' = w.alloc (.cells (clk [0,0,0,0,0,0] n) 36) := by
  go_enter Try.func6, Try.ntmps6
  go_wp2_with fail
  go_ret
  exact ⟨rfl, rfl⟩

theorem new_out (w : World) (n : Int) (h : n < 1 ∨ 6 < n) :
    Calls Try.prog 6 #[.int .i64 n] w fun e w' => e = .returned (.pointer none) ∧ w = w' := by
  rcases h with h | h
  · go_enter Try.func6, Try.ntmps6
    go_wp2_with fail
    go_ret
    exact ⟨rfl, rfl⟩
  · have : ¬ n < 1 := by omega
    go_enter Try.func6, Try.ntmps6
    go_wp2_with fail
    go_ret
    exact ⟨rfl, rfl⟩

/-- What a region of Tick keeps. -/
theorem keepT {w W w' : World} {b n i j : Nat} {u v : Value} {xs : List Int} (hO : Own W b (clk xs n) 36) (hM : Mod (· = b) w W)
    (h1 : W.cell? ⟨b, i, none⟩ = some u) (h2 : W.cell? ⟨b, j, none⟩ = some v) (hB : Below W.heap.size W w') :
    w'.cell? ⟨b, i, none⟩ = some u ∧ w'.cell? ⟨b, j, none⟩ = some v ∧ Own w' b (clk xs n) 36 ∧ Mod (· = b) w w' :=
  ⟨(hB.cell (p := ⟨b, i, none⟩) hO.lt).trans h1, (hB.cell (p := ⟨b, j, none⟩) hO.lt).trans h2, (hB.block b hO.lt).trans hO, hM.trans (Mod.ofBelow hB)⟩

theorem wrap_small {x : Int} (h0 : -9000000000000000000 ≤ x) (h1 : x ≤ 9000000000000000000) : IntKind.i64.wrap x = x := IntWalk.i64_in _ (by omega)

set_option maxHeartbeats 1000000 in
theorem tick_yes (w : World) (b n node : Nat) (xs : List Int) (hl : xs.length = 6) (h6 : n ≤ 6) (hO : Own w b (clk xs n) 36) (hn : node < n)
    (hb : ∀ i, 0 ≤ xs.getD i 0 ∧ xs.getD i 0 ≤ 1000) (hd : xs.getD node 0 - xs.getD (nx xs n) 0 < 2) :
    Calls Try.prog 9 #[.pointer (some ⟨b, 0, none⟩), .int .i64 node] w fun e w' => e = .returned (.bool true) ∧
      Own w' b (clk (xs.set node (xs.getD node 0 + 1)) n) 36 ∧ Mod (· = b) w w' := by
  have hx : nx xs n < 6 := by have := nx_lt xs n; omega
  have c1 := hO.cell' (clk_cell (n := n) hl (i := node) (by omega))
  have c2 := hO.cell' (clk_cell (n := n) hl (i := nx xs n) hx)
  have b1 := hb node
  have b2 := hb (nx xs n)
  clear hb
  have hlt := hO.lt
  have i1 : (0 : Int) ≤ (node : Int) := by omega
  have i2 : (node : Int) < 6 := by omega
  have i3 : (0 : Int) ≤ (nx xs n : Int) := by omega
  have i4 : (nx xs n : Int) < 6 := by omega
  generalize hxe : xs.getD node 0 = x at *
  generalize hye : xs.getD (nx xs n) 0 = y at *
  have Hx := Lib.hid hxe
  have Hy := Lib.hid hye
  clear hxe hye
  have hwd : IntKind.i64.wrap (x - y) = x - y := wrap_small (by omega) (by omega)
  have hdd : decide (2 ≤ x - y) = false := by simp; omega
  go_enter Try.func9, Try.ntmps9
  go_wp2_with fail
  go_region_held3 (fun w' => w'.cell? ⟨b, node, none⟩ = some (.int .i64 x) ∧ w'.cell? ⟨b, nx xs n, none⟩ = some (.int .i64 y) ∧ Own w' b (clk xs n) 36 ∧ Mod (· = b) w w')
    (first | exact ⟨by assumption, by assumption, by assumption, Mod.drew (Mod.refl _ _)⟩ | (go_split_ands; exact keepT (by assumption) (by assumption) (by assumption) (by assumption) hB))
    (first
      | (go_at_call 15; refine (there_in _ b n node xs hl (by assumption) (by omega) (by omega)).mono ?_; rintro e w' ⟨rfl, rfl⟩)
      | (go_at_call 13; refine (next_any _ b n xs (by omega) h6 (fun i hi => Own.cell' (by assumption) (clk_cell hl hi)) (Own.cell' (by assumption) (clk_n hl))).mono ?_; rintro e w' ⟨rfl, hB⟩))
  have hO' : Own w' b (clk xs n) 36 := (hB.block b hlt).trans hO
  have hM' : Mod (· = b) w w' := (Mod.drew (Mod.refl _ _)).trans (Mod.ofBelow hB)
  have c1' := hO'.cell' (clk_cell (n := n) hl (i := node) (by omega))
  have hfree := hO'.free node
  rw [Hx.out] at c1'
  clear c1 c2 hO hB
  go_wp2_with fail
  go_region
  go_wp2_with fail
  go_ret
  refine ⟨rfl, ?_, ?_⟩
  · have := (hO'.setCell node (.int .i64 (x + 1))).drew
    rw [clk_set hl (by omega)] at this
    exact this
  · exact (hM'.setCell _ _ (fun _ => rfl)).drew

set_option maxHeartbeats 1000000 in
theorem tick_no (w : World) (b n node : Nat) (xs : List Int) (hl : xs.length = 6) (h6 : n ≤ 6) (hO : Own w b (clk xs n) 36) (hn : node < n)
    (hb : ∀ i, 0 ≤ xs.getD i 0 ∧ xs.getD i 0 ≤ 1000) (hd : 2 ≤ xs.getD node 0 - xs.getD (nx xs n) 0) :
    Calls Try.prog 9 #[.pointer (some ⟨b, 0, none⟩), .int .i64 node] w fun e w' => e = .returned (.bool false) ∧
      Own w' b (clk xs n) 36 ∧ Mod (· = b) w w' := by
  have hx : nx xs n < 6 := by have := nx_lt xs n; omega
  have c1 := hO.cell' (clk_cell (n := n) hl (i := node) (by omega))
  have c2 := hO.cell' (clk_cell (n := n) hl (i := nx xs n) hx)
  have b1 := hb node
  have b2 := hb (nx xs n)
  clear hb
  have hlt := hO.lt
  have i1 : (0 : Int) ≤ (node : Int) := by omega
  have i2 : (node : Int) < 6 := by omega
  have i3 : (0 : Int) ≤ (nx xs n : Int) := by omega
  have i4 : (nx xs n : Int) < 6 := by omega
  generalize hxe : xs.getD node 0 = x at *
  generalize hye : xs.getD (nx xs n) 0 = y at *
  have Hx := Lib.hid hxe
  have Hy := Lib.hid hye
  clear hxe hye
  have hwd : IntKind.i64.wrap (x - y) = x - y := wrap_small (by omega) (by omega)
  have hdd : decide (2 ≤ x - y) = true := by simp; omega
  go_enter Try.func9, Try.ntmps9
  go_wp2_with fail
  go_region_held3 (fun w' => w'.cell? ⟨b, node, none⟩ = some (.int .i64 x) ∧ w'.cell? ⟨b, nx xs n, none⟩ = some (.int .i64 y) ∧ Own w' b (clk xs n) 36 ∧ Mod (· = b) w w')
    (first | exact ⟨by assumption, by assumption, by assumption, Mod.drew (Mod.refl _ _)⟩ | (go_split_ands; exact keepT (by assumption) (by assumption) (by assumption) (by assumption) hB))
    (first
      | (go_at_call 15; refine (there_in _ b n node xs hl (by assumption) (by omega) (by omega)).mono ?_; rintro e w' ⟨rfl, rfl⟩)
      | (go_at_call 13; refine (next_any _ b n xs (by omega) h6 (fun i hi => Own.cell' (by assumption) (clk_cell hl hi)) (Own.cell' (by assumption) (clk_n hl))).mono ?_; rintro e w' ⟨rfl, hB⟩))
  have hO' : Own w' b (clk xs n) 36 := (hB.block b hlt).trans hO
  have hM' : Mod (· = b) w w' := (Mod.drew (Mod.refl _ _)).trans (Mod.ofBelow hB)
  clear c1 c2 hO hB
  go_wp2_with fail
  go_ret
  exact ⟨rfl, hO', hM'⟩

theorem tick_out (w : World) (b n : Nat) (node : Int) (xs : List Int) (hl : xs.length = 6) (hO : Own w b (clk xs n) 36) (hn : node < 0 ∨ ¬ node < n) :
    Calls Try.prog 9 #[.pointer (some ⟨b, 0, none⟩), .int .i64 node] w fun e w' => e = .returned (.bool false) ∧ ∃ q, w' = w.drewN q := by
  have hth : ∀ q, Calls Try.prog 15 #[.pointer (some ⟨b, 0, none⟩), .int .i64 node] (w.drewN q) fun e w' => e = .returned (.bool false) ∧ w' = w.drewN q := by
    intro q
    by_cases h0 : node < 0
    · exact (there_lo _ _ _ h0).mono fun _ _ h => ⟨h.1, h.2.symm⟩
    · exact (there_hi (w.drewN q) _ _ _ _ hl (hO.drewN q) (by omega) (by omega)).mono fun _ _ h => ⟨h.1, h.2.symm⟩
  clear hO
  go_enter Try.func9, Try.ntmps9
  go_wp2_with fail
  go_quiet ((go_at_call 15; exact Calls.quiet_of_same (hth _)))
  go_wp2_with fail
  go_ret
  exact ⟨rfl, _, rfl⟩

theorem tick_nil (w : World) (node : Int) :
    Calls Try.prog 9 #[.pointer none, .int .i64 node] w fun e w' => e = .returned (.bool false) ∧ ∃ q, w' = w.drewN q := by
  go_enter Try.func9, Try.ntmps9
  go_wp2_with fail
  go_quiet ((go_at_call 15; exact Calls.quiet_of_same ((there_nil _ _).mono fun _ _ h => ⟨h.1, h.2.symm⟩)))
  go_wp2_with fail
  go_ret
  exact ⟨rfl, _, rfl⟩
end Go.Proofs.Ytfkgampnkpjicaa
