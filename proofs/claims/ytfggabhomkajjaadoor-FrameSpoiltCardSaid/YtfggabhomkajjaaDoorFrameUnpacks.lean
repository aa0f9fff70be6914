/- frame: the law FrameUnpacks. -/
import Derived.Test.YtfggabhomkajjaaDoorFramePacks
import Derived.Deep.RegionHeld3
import Derived.Deep.AppendLies
namespace Go.Proofs.YtfggabhomkajjaaDoor
open Go.RowKit Go.Wd

/-- What the law takes of what it is handed. -/
def cutL (ls : List (List UInt8)) : List (List UInt8) := (ls.take 320).map (·.take 40)

theorem flat_le (m : Nat) (ls : List (List UInt8)) (h : ∀ x ∈ ls, x.length ≤ m) : ls.flatten.length ≤ m * ls.length := by
  induction ls with
  | nil => simp
  | cons x r ih =>
    have h1 := h x (by simp)
    have h2 := ih (fun y hy => h y (by simp [hy]))
    simp only [List.flatten_cons, List.length_append, List.length_cons, Nat.mul_add, Nat.mul_one]
    omega

theorem own_far {w : World} {B : Nat} {e : TypeId} {size : Nat} {v : Value} {n : Nat} {xs : List Value} (h : w.ownsRow B e size v n xs) {b : Nat} (hb : b < B) : v.ownBlock ≠ some b := by
  rcases h.2 with ⟨rfl, _⟩ | ⟨g, cap, cur, rfl, hg, _⟩
  · intro h'; cases h'
  · intro h'
    have : g = b := Option.some.inj h'
    omega

set_option maxRecDepth 100000 in
set_option maxHeartbeats 3200000 in
theorem frameUnpacks_any (ls : List (List UInt8)) (v : Value) (w : World) (hv : RdStrs w v ls) (hL : ∀ x ∈ ls, x.length ≤ 9223372036854775807) :
    Calls Tryd.prog 4 #[v] w fun e w' => e = .returned (.bool true) ∧ Below w.heap.size w w' := by
  obtain ⟨i0, hi, hz0, hz1, hz2⟩ := info_parts infoStr
  obtain ⟨a, c, rfl, hc, hr⟩ := hv
  have HR := Lib.hid hr
  have HL := Lib.hid hL
  clear hr hL
  go_enter Tryd.func4, Tryd.ntmps4
  go_wp2_with fail
  go_loopw [3, 4, 9, 10, 11, 12, 13, 14, 15, 16, 17, 18, 19, 20, 21, 22, 23, 24, 25, 26, 27, 28, 29, 30, 31, 32] (fun v i _ _ _ _ _ _ _ _ _ _ _ _ _ _ _ _ _ _ _ _ _ _ _ _ wr => ∃ k : Nat, k ≤ ls.length ∧ k ≤ 320 ∧ i = .int .i64 k ∧ ∃ done : List (List UInt8), done.length = k ∧ Hid (done = (ls.take k).map (·.take 40)) ∧
      wr.ownsRow w.heap.size 9 1 v done.length (strs done) ∧ Below w.heap.size w wr)
    (fun _ i _ _ _ _ _ _ _ _ _ _ _ _ _ _ _ _ _ _ _ _ _ _ _ _ _ => 320 - (intOf i).toNat)
  case atStart => exact ⟨0, Nat.zero_le _, Nat.zero_le _, rfl, [], rfl, rfl, World.ownsRow_nil _ _ _ _, Below.refl _ _⟩
  case round =>
    obtain ⟨k, hk, hk3, rfl, done, hdk, Hd, hown, hB⟩ := hrel
    by_cases hlt : k < ls.length ∧ k < 320
    · obtain ⟨hlt, hlt3⟩ := hlt
      obtain ⟨b, o, rfl, hb, hcells⟩ := (HR.out).resolve_left (by intro e; rw [e] at hlt; exact absurd hlt (Nat.not_lt_zero _))
      have hx : ls[k]? = some ls[k] := List.getElem?_eq_getElem hlt
      have hcell := hcells k _ hx
      have hxl : ls[k].length ≤ 9223372036854775807 := HL.out _ (List.getElem_mem hlt)
      have Hx := Lib.hid hx
      clear hx hcells
      generalize ls[k] = x at *
      rw [← below_cell hB hb] at hcell
      have hfar := own_far hown hb
      have hBs := hB.size
      have hbr : b < wr.heap.size := by omega
      obtain ⟨y, Hy⟩ : ∃ y, Hid (x.take 40 = y) := ⟨_, rfl⟩
      have he : x.take (min (x.length : Int) 40).toNat = y := by
        rw [← Hy.out, take_min x 40]
        congr 1
        omega
      have j1 : (0 : Int) ≤ min (x.length : Int) 40 := by omega
      have j2 : min (x.length : Int) 40 ≤ (x.length : Int) := by omega
      have j3 : (0 : Int) ≤ (k : Int) := by omega
      have j4 : (k : Int) < (ls.length : Int) := by omega
      have s1 : done.length + 1 ≤ maxLen := by unfold maxLen; omega
      have s2 : (done.length + 1) * 16 ≤ 140737488355328 := by omega
      go_wp2_with fail
      go_region_held3 (fun w' => w'.cell? ⟨b, o + k, none⟩ = some (.string (Str x)))
        (first
          | go_keep
          | (rw [hgrow.cell_far _ (by simp; omega) (Ne.symm hfar)]; assumption))
        ((refine step_append_lies _ (by rfl) _ _ _ (by rfl) w.heap.size 9 i0 _ 1 16 Tryd.underlying22 hi hz0 hz1 hz2 rfl (by omega) _ done.length (strs done) (by rfl) ((hown.alloc _).drew)
              ⟨wr.heap.size, 0, none⟩ 1 1 [.string (Str y)] (by rfl) (by rfl) (World.news_of_block (cs := #[.string (Str y)]) (t := 9) (fr := (0, 0)) (heap_alloc_new wr _)) (by simp [Value.oneCell'])
              (by omega) s1 s2 (by simp; omega) (wr.heap.size + 1) (by simp) ?_; intro gg cap w1 hown1 hgrow hat hgg))
      rw [← strs_snoc] at hown1
      have hB2 : Below w.heap.size w w1 := ((hB.alloc hB.size _).drew).grown hgrow (by simp; omega) (fun k hk => (hown.lt k hk).1)
      have hdk' : done.length + 1 = k + 1 := by omega
      have Hd' : Hid (done ++ [y] = (ls.take (k + 1)).map (·.take 40)) := by
        show _ = _
        rw [List.take_add_one, Hx.out, List.map_append, ← Hd.out, ← Hy.out]
        rfl
      clear hown hB hgrow Hd Hx Hy he hat hgg hcell j1 j2 hfar
      go_wp2_with fail
      go_roundw
      case rel => exact ⟨k + 1, by omega, by omega, by go_num, done ++ [y], by simp [hdk], Hd', by simpa [hdk] using hown1, hB2⟩
      case measure => simp [intOf]; omega
    · have hd40 : ∀ x ∈ done, x.length ≤ 40 := by
        intro x hx
        rw [Hd.out, List.mem_map] at hx
        obtain ⟨y, _, rfl⟩ := hx
        simp; omega
      have hdl : done.length ≤ 100000 := by omega
      have hrd := RdStrs.of_owns hown
      have hun := unpack_any done u3 wr hrd hdl (by have := flat_le 40 done hd40; omega)
      have hrun := fun W (hb : Below wr.heap.size wr W) => runpack_any done u3 W (hrd.below hb) hdl (fun x hx => by have := hd40 x hx; omega)
      rw [← unpack_eq] at hrun
      obtain ⟨r, hr⟩ : ∃ r, unpackL done = r := ⟨_, rfl⟩
      rw [hr] at hun hrun
      obtain ⟨a1, c1, rfl⟩ := hrd.form
      rw [hdk] at *
      clear hr hrd hown hd40 Hd hdl
      have HU := Lib.hid hun
      have HRU := Lib.hid hrun
      clear hun hrun
      by_cases h1 : k < ls.length
      · have d1 : decide ((k : Int) < (ls.length : Int)) = true := by simp; omega
        have d2 : decide ((k : Int) < 320) = false := by simp; omega
        cases r with
        | none =>
          have HU' : Hid (Calls _ _ _ _ fun e w' => e = .returned (.tuple #[.string (Str []), .int .i64 4]) ∧ _) := HU.out
          have HR' : Hid (∀ W, _ → Calls _ _ _ _ fun e w' => e = .returned (.tuple #[.string (Str []), .int .i64 4]) ∧ _) := HRU.out
          clear HU HRU
          go_wp2_with fail
          refine HU'.out.mono ?_
          rintro e w1 ⟨rfl, hb1⟩
          go_wp2_with fail
          refine (HR'.out _ hb1).mono ?_
          rintro e w2 ⟨rfl, hb2⟩
          have hb3 := below_then (below_then hB hb1) hb2
          clear HU' HR'
          go_wp2_with fail
          refine (works_any _).mono ?_
          rintro e w5 ⟨rfl, hb5⟩
          go_wp2_with fail
          go_ret
          exact ⟨rfl, below_then hb3 hb5⟩
        | some t =>
          have HU' : Hid (Calls _ _ _ _ fun e w' => e = .returned (.tuple #[.string (Str t), .int .i64 0]) ∧ _) := HU.out
          have HR' : Hid (∀ W, _ → Calls _ _ _ _ fun e w' => e = .returned (.tuple #[.string (Str t), .int .i64 0]) ∧ _) := HRU.out
          clear HU HRU
          go_wp2_with fail
          refine HU'.out.mono ?_
          rintro e w1 ⟨rfl, hb1⟩
          go_wp2_with fail
          refine (HR'.out _ hb1).mono ?_
          rintro e w2 ⟨rfl, hb2⟩
          have hb3 := below_then (below_then hB hb1) hb2
          clear HU' HR'
          go_wp2_with fail
          refine (works_any _).mono ?_
          rintro e w5 ⟨rfl, hb5⟩
          go_wp2_with fail
          go_ret
          exact ⟨rfl, below_then hb3 hb5⟩
      · obtain rfl : k = ls.length := by omega
        cases r with
        | none =>
          have HU' : Hid (Calls _ _ _ _ fun e w' => e = .returned (.tuple #[.string (Str []), .int .i64 4]) ∧ _) := HU.out
          have HR' : Hid (∀ W, _ → Calls _ _ _ _ fun e w' => e = .returned (.tuple #[.string (Str []), .int .i64 4]) ∧ _) := HRU.out
          clear HU HRU
          go_wp2_with fail
          refine HU'.out.mono ?_
          rintro e w1 ⟨rfl, hb1⟩
          go_wp2_with fail
          refine (HR'.out _ hb1).mono ?_
          rintro e w2 ⟨rfl, hb2⟩
          have hb3 := below_then (below_then hB hb1) hb2
          clear HU' HR'
          go_wp2_with fail
          refine (works_any _).mono ?_
          rintro e w5 ⟨rfl, hb5⟩
          go_wp2_with fail
          go_ret
          exact ⟨rfl, below_then hb3 hb5⟩
        | some t =>
          have HU' : Hid (Calls _ _ _ _ fun e w' => e = .returned (.tuple #[.string (Str t), .int .i64 0]) ∧ _) := HU.out
          have HR' : Hid (∀ W, _ → Calls _ _ _ _ fun e w' => e = .returned (.tuple #[.string (Str t), .int .i64 0]) ∧ _) := HRU.out
          clear HU HRU
          go_wp2_with fail
          refine HU'.out.mono ?_
          rintro e w1 ⟨rfl, hb1⟩
          go_wp2_with fail
          refine (HR'.out _ hb1).mono ?_
          rintro e w2 ⟨rfl, hb2⟩
          have hb3 := below_then (below_then hB hb1) hb2
          clear HU' HR'
          go_wp2_with fail
          refine (works_any _).mono ?_
          rintro e w5 ⟨rfl, hb5⟩
          go_wp2_with fail
          go_ret
          exact ⟨rfl, below_then hb3 hb5⟩
end Go.Proofs.YtfggabhomkajjaaDoor
