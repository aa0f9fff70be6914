/- Clock: contracts of the document's functions. -/
import Derived.Test.YtfkgampnkpjicaaWalks
import Derived.Deep.OwnRows
namespace Go.Proofs.Ytfkgampnkpjicaa
open Go.RowKit Go.Wd

def row (ys : List Int) : Array Value := ⟨ys.map (Value.int .i64)⟩
def hold (lb n : Nat) : Array Value := #[.slice (some ⟨lb, 0, none⟩) n n]

theorem row_cell {ys : List Int} {i : Nat} (hi : i < ys.length) : (row ys)[i]? = some (.int .i64 (ys.getD i 0)) := by
  simp [row, hi]
theorem row_set {ys : List Int} {i : Nat} (x : Int) : (row ys).setIfInBounds i (.int .i64 x) = row (ys.set i x) := by
  simp [row, List.map_set]
theorem row_zero (n : Nat) : madeCells #[.int .i64 0] n = row (List.replicate n 0) := by
  simp only [madeCells, row]
  apply Array.ext
  · simp
  · intro i h1 h2
    simp [Nat.mod_one]

theorem nx_succ (xs : List Int) (k : Nat) : nx xs (k + 1) = if xs.getD k 0 < xs.getD (nx xs k) 0 then k else nx xs k := rfl

theorem rnext_any (w : World) (rb lb n : Nat) (ys : List Int) (hl : ys.length = n) (h1 : 1 ≤ n) (h6 : n ≤ 6)
    (hR : Own w rb (hold lb n) 39) (hO : Own w lb (row ys) 2) :
    Calls Try.prog 14 #[.pointer (some ⟨rb, 0, none⟩)] w fun e w' => e = .returned (.int .i64 (nx ys n)) ∧ ∃ q, w' = w.drewN q := by
  have hs := hR.cell' (i := 0) (v := .slice (some ⟨lb, 0, none⟩) n n) rfl
  go_enter Try.func14, Try.ntmps14
  go_wp2_with fail
  go_loopw [3, 4, 5, 6, 7, 8, 9, 10, 11, 12, 13, 14, 15, 16, 17, 18, 19, 20, 21, 22, 23, 24, 25, 26, 27, 28, 29] (fun b i _ _ _ _ _ _ _ _ _ _ _ _ _ _ _ _ _ _ _ _ _ _ _ _ _ wr => ∃ k q : Nat, k ≤ n ∧ b = .int .i64 (nx ys k) ∧ i = .int .i64 k ∧ wr = w.drewN q)
    (fun _ i _ _ _ _ _ _ _ _ _ _ _ _ _ _ _ _ _ _ _ _ _ _ _ _ _ _ => n - (intOf i).toNat)
  case atStart => exact ⟨0, 0, by omega, rfl, rfl, rfl⟩
  case round =>
    obtain ⟨k, q, hk, rfl, rfl, rfl⟩ := hrel
    by_cases hlt' : k < n
    · have hb6 : nx ys k < n := by have := nx_lt ys k; omega
      have c1 := hO.cell' (row_cell (i := k) (by omega))
      have c2 := hO.cell' (row_cell (i := nx ys k) (by omega))
      have i3 : (0 : Int) ≤ (nx ys k : Int) := by omega
      have i4 : (nx ys k : Int) < n := by omega
      have i5 : (0 : Int) ≤ (k : Int) := by omega
      have i6 : (k : Int) < n := by omega
      have hsu := nx_succ ys k
      generalize ys.getD k 0 = x at *
      generalize ys.getD (nx ys k) 0 = y at *
      clear hR hO
      by_cases hx : x < y
      · rw [if_pos hx] at hsu
        have Hsu := Lib.hid hsu
        clear hsu
        go_wp2_with fail
        go_quiet (fail)
        go_wp2_with fail
        go_roundw
        case rel => exact ⟨k + 1, _, by omega, by rw [Hsu.out], by go_num, rfl⟩
        case measure => simp [intOf]; omega
      · rw [if_neg hx] at hsu
        have Hsu := Lib.hid hsu
        clear hsu
        go_wp2_with fail
        go_quiet (fail)
        go_wp2_with fail
        go_roundw
        case rel => exact ⟨k + 1, _, by omega, by rw [Hsu.out], by go_num, rfl⟩
        case measure => simp [intOf]; omega
    · obtain rfl : k = n := by omega
      clear hR hO
      go_wp2_with fail
      go_ret
      exact ⟨rfl, _, rfl⟩

theorem rat_in (w : World) (rb lb n node : Nat) (ys : List Int) (hl : ys.length = n) (hR : Own w rb (hold lb n) 39) (hO : Own w lb (row ys) 2) (hn : node < n) :
    Calls Try.prog 12 #[.pointer (some ⟨rb, 0, none⟩), .int .i64 node] w fun e w' => e = .returned (.int .i64 (ys.getD node 0)) ∧ ∃ q, w' = w.drewN q := by
  have hs := hR.cell' (i := 0) (v := .slice (some ⟨lb, 0, none⟩) n n) rfl
  have c1 := hO.cell' (row_cell (i := node) (by omega))
  have i5 : (0 : Int) ≤ (node : Int) := by omega
  have i6 : (node : Int) < n := by omega
  have i7 : ¬ ((n : Int) ≤ node) := by omega
  clear hR hO
  go_enter Try.func12, Try.ntmps12
  go_wp2_with fail
  go_ret
  exact ⟨rfl, 0, rfl⟩

theorem rat_lo (w : World) (rb : Nat) (node : Int) (hn : node < 0) :
    Calls Try.prog 12 #[.pointer (some ⟨rb, 0, none⟩), .int .i64 node] w fun e w' => e = .returned (.int .i64 0) ∧ ∃ q, w' = w.drewN q := by
  go_enter Try.func12, Try.ntmps12
  go_wp2_with fail
  go_ret
  exact ⟨rfl, 0, rfl⟩

theorem rat_hi (w : World) (rb lb n : Nat) (node : Int) (hR : Own w rb (hold lb n) 39) (h0 : 0 ≤ node) (hn : ¬ node < n) :
    Calls Try.prog 12 #[.pointer (some ⟨rb, 0, none⟩), .int .i64 node] w fun e w' => e = .returned (.int .i64 0) ∧ ∃ q, w' = w.drewN q := by
  have hs := hR.cell' (i := 0) (v := .slice (some ⟨lb, 0, none⟩) n n) rfl
  clear hR
  go_enter Try.func12, Try.ntmps12
  go_wp2_with fail
  go_ret
  exact ⟨rfl, 0, rfl⟩

theorem info2 : (Try.prog.info? 2).map (fun i => (i.zero, i.size, i.bytes)) = some (some (.int .i64 0), 1, 8) := by kernel_rfl

theorem rnew_in (w : World) (n : Nat) (h1 : 1 ≤ n) (h6 : n ≤ 6) :
    Calls Try.prog 7 #[.int .i64 n] w fun e w' => e = .returned (.pointer (some ⟨w.heap.size + 1, 0, none⟩)) ∧
      w' = (w.alloc (.cells (row (List.replicate n 0)) 2)).alloc (.cells (hold w.heap.size n) 39) := by
  have hmk := fun w => run_make_row' (P := Try.prog) 37 2 (.int .i64 0) 8 Try.underlying37 info2 rfl .i64 .i64 n (by omega) (by omega) w
  rw [row_zero] at hmk
  go_enter Try.func7, Try.ntmps7
  go_wp2_with fail
  go_ret
  exact ⟨rfl, rfl⟩

theorem rnew_out (w : World) (n : Int) (h : n < 1 ∨ 6 < n) :
    Calls Try.prog 7 #[.int .i64 n] w fun e w' => e = .returned (.pointer none) ∧ w = w' := by
  rcases h with h | h
  · go_enter Try.func7, Try.ntmps7
    go_wp2_with fail
    go_ret
    exact ⟨rfl, rfl⟩
  · have : ¬ n < 1 := by omega
    go_enter Try.func7, Try.ntmps7
    go_wp2_with fail
    go_ret
    exact ⟨rfl, rfl⟩

set_option maxHeartbeats 1000000 in
theorem rtick_yes (w : World) (rb lb n node : Nat) (ys : List Int) (hl : ys.length = n) (h6 : n ≤ 6) (hR : Own w rb (hold lb n) 39) (hO : Own w lb (row ys) 2) (hn : node < n)
    (hb : ∀ i, 0 ≤ ys.getD i 0 ∧ ys.getD i 0 ≤ 1000) (hd : ys.getD node 0 - ys.getD (nx ys n) 0 < 2) :
    Calls Try.prog 10 #[.pointer (some ⟨rb, 0, none⟩), .int .i64 node] w fun e w' => e = .returned (.bool true) ∧
      Own w' lb (row (ys.set node (ys.getD node 0 + 1))) 2 ∧ Mod (· = lb) w w' := by
  have hs := hR.cell' (i := 0) (v := .slice (some ⟨lb, 0, none⟩) n n) rfl
  have hx : nx ys n < n := by have := nx_lt ys n; omega
  have c1 := hO.cell' (row_cell (i := node) (by omega))
  have c2 := hO.cell' (row_cell (i := nx ys n) (by omega))
  have hnext := fun q => rnext_any (w.drewN q) rb lb n ys hl (by omega) h6 hR hO
  have b1 := hb node
  have b2 := hb (nx ys n)
  clear hb
  have i1 : (0 : Int) ≤ (node : Int) := by omega
  have i2 : (node : Int) < n := by omega
  have i2' : decide ((n : Int) ≤ node) = false := by simp; omega
  have i3 : (0 : Int) ≤ (nx ys n : Int) := by omega
  have i4 : (nx ys n : Int) < n := by omega
  generalize hxe : ys.getD node 0 = x at *
  generalize hye : ys.getD (nx ys n) 0 = y at *
  have Hx := Lib.hid hxe
  have Hy := Lib.hid hye
  have HO := Lib.hid hO
  have HN := Lib.hid hnext
  have Hl := Lib.hid hl
  have hfree := hO.free node
  clear hxe hye hO hnext hR hl
  have hwd : IntKind.i64.wrap (y + 2) = y + 2 := wrap_small (by omega) (by omega)
  have hdd : decide (y + 2 ≤ x) = false := by simp; omega
  have hlo : decide ((node : Int) < 0) = false := by simp
  go_enter Try.func10, Try.ntmps10
  go_wp2_with fail
  go_quiet ((go_at_call 14; exact Calls.quiet_of (HN.out _)))
  go_wp2_with fail
  go_ret
  refine ⟨rfl, ?_, ?_⟩
  · have := (HO.out.drewN nq).setCell node (.int .i64 (x + 1))
    rw [row_set] at this
    exact this
  · exact ((Mod.refl _ w).drewN nq).setCell _ _ (fun _ => rfl)

set_option maxHeartbeats 1000000 in
theorem rtick_no (w : World) (rb lb n node : Nat) (ys : List Int) (hl : ys.length = n) (h6 : n ≤ 6) (hR : Own w rb (hold lb n) 39) (hO : Own w lb (row ys) 2) (hn : node < n)
    (hb : ∀ i, 0 ≤ ys.getD i 0 ∧ ys.getD i 0 ≤ 1000) (hd : 2 ≤ ys.getD node 0 - ys.getD (nx ys n) 0) :
    Calls Try.prog 10 #[.pointer (some ⟨rb, 0, none⟩), .int .i64 node] w fun e w' => e = .returned (.bool false) ∧ ∃ q, w' = w.drewN q := by
  have hs := hR.cell' (i := 0) (v := .slice (some ⟨lb, 0, none⟩) n n) rfl
  have hx : nx ys n < n := by have := nx_lt ys n; omega
  have c1 := hO.cell' (row_cell (i := node) (by omega))
  have c2 := hO.cell' (row_cell (i := nx ys n) (by omega))
  have hnext := fun q => rnext_any (w.drewN q) rb lb n ys hl (by omega) h6 hR hO
  have b1 := hb node
  have b2 := hb (nx ys n)
  clear hb
  have i1 : (0 : Int) ≤ (node : Int) := by omega
  have i2 : (node : Int) < n := by omega
  have i2' : decide ((n : Int) ≤ node) = false := by simp; omega
  have i3 : (0 : Int) ≤ (nx ys n : Int) := by omega
  have i4 : (nx ys n : Int) < n := by omega
  generalize hxe : ys.getD node 0 = x at *
  generalize hye : ys.getD (nx ys n) 0 = y at *
  have HN := Lib.hid hnext
  have Hl := Lib.hid hl
  clear hxe hye hO hnext hR hl
  have hwd : IntKind.i64.wrap (y + 2) = y + 2 := wrap_small (by omega) (by omega)
  have hdd : decide (y + 2 ≤ x) = true := by simp; omega
  have hlo : decide ((node : Int) < 0) = false := by simp
  go_enter Try.func10, Try.ntmps10
  go_wp2_with fail
  go_quiet ((go_at_call 14; exact Calls.quiet_of (HN.out _)))
  go_wp2_with fail
  go_ret
  exact ⟨rfl, _, rfl⟩

theorem rtick_lo (w : World) (rb : Nat) (node : Int) (hn : node < 0) :
    Calls Try.prog 10 #[.pointer (some ⟨rb, 0, none⟩), .int .i64 node] w fun e w' => e = .returned (.bool false) ∧ ∃ q, w' = w.drewN q := by
  have hlo : decide (node < 0) = true := by simp; omega
  go_enter Try.func10, Try.ntmps10
  go_wp2_with fail
  go_quiet (fail)
  go_wp2_with fail
  go_ret
  exact ⟨rfl, _, rfl⟩

theorem rtick_hi (w : World) (rb lb n : Nat) (node : Int) (hR : Own w rb (hold lb n) 39) (h0 : 0 ≤ node) (hn : ¬ node < n) :
    Calls Try.prog 10 #[.pointer (some ⟨rb, 0, none⟩), .int .i64 node] w fun e w' => e = .returned (.bool false) ∧ ∃ q, w' = w.drewN q := by
  have hs := hR.cell' (i := 0) (v := .slice (some ⟨lb, 0, none⟩) n n) rfl
  have hlo : decide (node < 0) = false := by simp; omega
  have i2' : decide ((n : Int) ≤ node) = true := by simp; omega
  clear hR
  go_enter Try.func10, Try.ntmps10
  go_wp2_with fail
  go_quiet (fail)
  go_wp2_with fail
  go_ret
  exact ⟨rfl, _, rfl⟩
end Go.Proofs.Ytfkgampnkpjicaa
