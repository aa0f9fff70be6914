/- frame: contracts of the document's Unpack. -/
import Derived.Test.YtfggabhomkajjaaDoorFrameRef3
namespace Go.Proofs.YtfggabhomkajjaaDoor
open Go.RowKit Go.Wd

theorem runpack_any (ls : List (List UInt8)) (v : Value) (w : World) (hv : RdStrs w v ls) (hN : ls.length ≤ 100000) (hL : ∀ x ∈ ls, x.length ≤ 100000) :
    Calls Tryd.prog 15 #[v] w fun e w' => e = .returned (unp (runpackL ls)) ∧ Below w.heap.size w w' := by
  obtain ⟨a, c, rfl, hc, hr⟩ := hv
  have HR := Lib.hid hr
  have HL := Lib.hid hL
  clear hr hL
  go_enter Tryd.func15, Tryd.ntmps15
  go_wp2_with fail
  go_loop [4, 5, 8, 9, 10, 11, 12, 13, 14, 15, 16, 17, 18, 19, 20, 21, 22, 23, 24, 25, 26, 27, 28, 29] (fun f i _ _ _ _ _ _ _ _ _ _ _ _ _ _ _ _ _ _ _ _ _ _ => ∃ k : Nat, k ≤ ls.length ∧ k ≤ 301 ∧ i = .int .i64 k ∧ ∃ all : List UInt8, f = .string (Str all) ∧ all.length = 32 * k ∧ Hid ((ls.take k).flatten = all ∧ ∀ (j : Nat) x, j < k → ls[j]? = some x → x.length = 32))
    (fun _ i _ _ _ _ _ _ _ _ _ _ _ _ _ _ _ _ _ _ _ _ _ _ => ls.length - (intOf i).toNat)
  case atStart => exact ⟨0, Nat.zero_le _, Nat.zero_le _, rfl, [], rfl, rfl, rfl, fun j x h => absurd h (Nat.not_lt_zero _)⟩
  case round =>
    obtain ⟨k, hk, hk3, rfl, all, rfl, hal, hgood⟩ := hrel
    by_cases hlt : k < ls.length ∧ k ≤ 300
    · obtain ⟨hlt, hlt3⟩ := hlt
      obtain ⟨b, o, rfl, hb, hcells⟩ := (HR.out).resolve_left (by intro e; rw [e] at hlt; exact absurd hlt (Nat.not_lt_zero _))
      have hx : ls[k]? = some ls[k] := List.getElem?_eq_getElem hlt
      have hcell := hcells k _ hx
      have hxl : ls[k].length ≤ 100000 := HL.out _ (List.getElem_mem hlt)
      have Hx := Lib.hid hx
      clear hx hcells
      generalize ls[k] = x at *
      by_cases h32 : x.length = 32
      · have e1 : ((x.length : Int) != 32) = false := by simp; omega
        have H32 := Lib.hid h32
        clear h32
        go_wp2_with fail
        go_round
        case rel =>
          refine ⟨k + 1, by omega, by omega, by go_num, all ++ x, rfl, by have := H32.out; simp; omega, ?_, ?_⟩
          · rw [List.take_add_one, Hx.out]
            simp [hgood.out.1]
          intro j y hj hy
          by_cases hjk : j = k
          · subst hjk
            have := (Hx.out).symm.trans hy
            cases this
            exact H32.out
          · exact hgood.out.2 j y (by omega) hy
        case measure => simp [intOf]; omega
      · have e1 : ((x.length : Int) != 32) = true := by simp; omega
        have H32 := Lib.hid h32
        clear h32
        go_wp2_with fail
        go_ret2
        refine ⟨?_, Below.refl _ _⟩
        have hu : runpackL ls = none := by
          unfold runpackL
          rw [if_neg]
          intro hall
          rw [List.all_eq_true] at hall
          have h1 : (ls.take 301)[k]? = some x := by rw [List.getElem?_take_of_lt (by omega)]; exact Hx.out
          have := hall x (List.mem_of_getElem? h1)
          exact H32.out (by simpa using this)
        rw [hu]
        rfl
    · have hall : (ls.take 301).all (fun s => s.length == 32) = true := by
        rw [List.all_eq_true]
        intro x hx
        obtain ⟨j, hj, rfl⟩ := List.getElem_of_mem hx
        have hj2 : j < 301 ∧ j < ls.length := by simp at hj; omega
        have := hgood.out.2 j _ (by omega) (List.getElem?_eq_getElem hj2.2)
        simpa using this
      have hu : runpackL ls = if ls.flatten = [] ∨ 300 < ls.length then none else runpackA ls.flatten := by unfold runpackL; rw [if_pos hall]
      by_cases hbig : 300 < ls.length
      · have hu2 : runpackL ls = none := by rw [hu, if_pos (.inr hbig)]
        have hk' : k = 301 := by omega
        subst hk'
        have hd1 : decide ((300 : Int) < (ls.length : Int)) = true := by simp; omega
        have e0 : ((all.length : Int) == 0) = false := by rw [beq_eq_false_iff_ne]; omega
        have e3 : all.isEmpty = false := by cases all with | nil => simp at hal | cons => rfl
        have Hu := Lib.hid hu2
        clear hu hu2 hall hal
        go_wp2_with fail
        all_goals (go_ret2; exact ⟨by rw [Hu.out]; rfl, Below.refl _ _⟩)
      · have hk' : k = ls.length := by omega
        subst hk'
        have hfl : ls.flatten = all := by have := hgood.out.1; rwa [List.take_length] at this
        rw [hfl] at hu
        have hd1 : decide ((300 : Int) < (ls.length : Int)) = false := by simp; omega
        have hd2 : decide ((ls.length : Int) ≤ 300) = true := by simp; omega
        by_cases h0 : all = []
        · have hu2 : runpackL ls = none := by rw [hu, if_pos (.inl h0)]
          have Hu := Lib.hid hu2
          clear hu hu2 hall hgood hfl hal
          subst h0
          go_wp2_with fail
          go_ret2
          exact ⟨by rw [Hu.out]; rfl, Below.refl _ _⟩
        · have hu2 : runpackL ls = runpackA all := by rw [hu, if_neg (by intro h; exact h.elim h0 hbig)]
          have h0' : all.isEmpty = false := by simpa using h0
          have hpos : 0 < all.length := List.length_pos_iff.2 h0
          have h2 : (1 : Int) < (all.length : Int) := by omega
          have h1 : (0 : Int) < (all.length : Int) := by omega
          obtain ⟨x, hx⟩ : ∃ x, all[0]? = some x := ⟨_, List.getElem?_eq_getElem (by omega)⟩
          obtain ⟨y, hy⟩ : ∃ y, all[1]? = some y := ⟨_, List.getElem?_eq_getElem (by omega)⟩
          have hi0 := fun W => run_index_str (P := Tryd.prog) W 9 .i64 0 all x Tryd.underlying9 (by omega) hx
          have hi1 := fun W => run_index_str (P := Tryd.prog) W 9 .i64 1 all y Tryd.underlying9 (by omega) hy
          have hN2 : num2 all = x.toNat * 256 + y.toNat := by simp [num2, List.getD_eq_getElem?_getD, hx, hy]
          have HN2 := Lib.hid hN2
          have Hu := Lib.hid hu2
          clear hu hu2 hall hgood hfl hN2 hx hy
          have e0 : ((all.length : Int) == 0) = false := by rw [beq_eq_false_iff_ne]; omega
          have Hal := Lib.hid hal
          have i0 : all.length ≤ 9600 := by omega
          clear hal
          go_wp2_with fail
          go_quiet (fail)
          have hb2 : Below w.heap.size w (w.drewN nq) := (Below.refl _ _).drewN nq
          generalize w.drewN nq = w2 at *
          have ho : wrap64 (wrap64 (256 * wrap64 (x.toNat : Int)) + wrap64 (y.toNat : Int)) = ((num2 all : Nat) : Int) := by
            have hx := x.toNat_lt
            have hy := y.toNat_lt
            rw [HN2.out]
            unfold wrap64
            omega
          rw [ho]
          have hua : runpackA all = if 8192 < num2 all ∨ all.length < 6 + num2 all then none
              else if padL ((all.drop 6).take (num2 all)) ≠ all then none
              else some ((all.drop 6).take (num2 all)) := rfl
          have HU : Hid (runpackL ls = _) := (Hu.out).trans hua
          clear hua Hu hi0 hi1 HN2 ho Hal e0 hlt hd1 hd2
          generalize num2 all = n at *
          by_cases hn1 : 8192 < n
          · have hd1 : decide ((8192 : Int) < (n : Int)) = true := by simp; omega
            go_wp2_with fail
            go_ret2
            exact ⟨by rw [HU.out, if_pos (.inl hn1)]; rfl, hb2⟩
          · have hd1 : decide ((8192 : Int) < (n : Int)) = false := by simp; omega
            by_cases hn2 : all.length < 6 + n
            · have hd2 : decide ((all.length : Int) < 6 + (n : Int)) = true := by simp; omega
              go_wp2_with fail
              go_ret2
              exact ⟨by rw [HU.out, if_pos (.inr hn2)]; rfl, hb2⟩
            · have hd2 : decide ((all.length : Int) < 6 + (n : Int)) = false := by simp; omega
              have HU2 : Hid (runpackL ls = _) := (HU.out).trans (if_neg (fun h => h.elim hn1 hn2))
              clear HU
              have i1 : (0 : Int) ≤ 6 + (n : Int) := by omega
              have i2 : 6 + (n : Int) ≤ (all.length : Int) := by omega
              have i4 : 6 + n - 6 = n := by omega
              have hl : ((all.drop 6).take n).length ≤ 10000000 := by simp; omega
              go_wp2_with fail
              rw [i4]
              generalize (all.drop 6).take n = t at *
              refine (rwhole_any t _ hl).mono ?_
              rintro e w3 ⟨rfl, hb3⟩
              have hb4 := below_then hb2 hb3
              generalize padL t = pt at *
              by_cases hpt : pt = all
              · have e1 : (pt != all) = false := by simpa using hpt
                have e2 : (pt == all) = true := by simpa using hpt
                have HU3 : Hid (runpackL ls = some t) := (HU2.out).trans (if_neg (fun h => h hpt))
                clear HU2 hpt
                go_wp2_with fail
                go_ret2
                exact ⟨by rw [HU3.out]; rfl, hb4⟩
              · have e1 : (pt != all) = true := by simpa using hpt
                have e2 : (pt == all) = false := by simpa using hpt
                have HU3 : Hid (runpackL ls = none) := (HU2.out).trans (if_pos hpt)
                clear HU2 hpt
                go_wp2_with fail
                go_ret2
                exact ⟨by rw [HU3.out]; rfl, hb4⟩
end Go.Proofs.YtfggabhomkajjaaDoor
