/- frame: the law FramePacks. -/
import Derived.Test.YtfggabhomkajjaaDoorFrameLaw
namespace Go.Proofs.YtfggabhomkajjaaDoor
open Go.RowKit Go.Wd

theorem take_min {α} (s : List α) (n : Nat) : s.take n = s.take (min s.length n) := by
  rcases Nat.le_total s.length n with h | h
  · rw [Nat.min_eq_left h, List.take_of_length_le h, List.take_length]
  · rw [Nat.min_eq_right h]

theorem framePacks_any (s : List UInt8) (w : World) (hs : s.length ≤ 9223372036854775807) :
    Calls Tryd.prog 3 #[.string (Str s)] w fun e w' => e = .returned (.bool true) ∧ Below w.heap.size w w' := by
  obtain ⟨t, Ht⟩ : ∃ t, Hid (s.take 9000 = t) := ⟨_, rfl⟩
  have htl : t.length ≤ 9000 := by rw [← Ht.out]; simp; omega
  have htt : t = s.take (min s.length 9000) := by rw [← Ht.out]; exact take_min s 9000
  go_enter Tryd.func3, Tryd.ntmps3
  have he : s.take (min (s.length : Int) 9000).toNat = t := by
    rw [htt]
    congr 1
    omega
  clear htt Ht
  go_wp2_with fail
  clear he
  have hsz := fun W => size_any t W (by omega)
  have hrsz := fun W => rsize_any t W (by omega)
  by_cases h8 : t.length ≤ 8192
  · refine (pack_rd t _ h8).mono ?_
    rintro e w1 ⟨v, rfl, _, hrd1, hb1⟩
    have hrp := rpack_any t w1 h8
    have hpl : (packL t).length ≤ 100000 := by rw [pack_len]; omega
    have htx := fun v2 (W : World) h1 h2 => texts_any v v2 (packL t) (packL t) W h1 h2 hpl hpl
    rw [decide_eq_true rfl] at htx
    rw [show chunks (wholeL t) = packL t from rfl] at hrp
    generalize packL t = p at *
    generalize (t.length + 37) / 32 = n at *
    go_wp2_with fail
    refine hrp.mono ?_
    rintro e w2 ⟨v2, rfl, hown2, hb2⟩
    have hrd2 := RdStrs.of_owns hown2
    have hrd1' := hrd1.below hb2
    have htx' := htx v2 w2 hrd1' hrd2
    have hb3 := below_then hb1 hb2
    clear htx hrp hown2 hrd1 hb1 hb2
    go_wp2_with fail
    refine htx'.mono ?_
    rintro e w3 ⟨rfl, q, rfl⟩
    have hb4 := hb3.drewN q
    generalize w2.drewN q = w4 at *
    go_wp2_with fail
    refine (hsz _).mono ?_
    rintro e w5 ⟨rfl, rfl⟩
    go_wp2_with fail
    refine (hrsz _).mono ?_
    rintro e w5 ⟨rfl, rfl⟩
    go_wp2_with fail
    refine (works_any _).mono ?_
    rintro e w5 ⟨rfl, hb5⟩
    go_wp2_with fail
    go_ret
    exact ⟨rfl, below_then hb4 hb5⟩
  · refine (pack_long t _ (by omega) (by omega)).mono ?_
    rintro e w1 ⟨rfl, rfl⟩
    have hrp := rpack_long t w (by omega) (by omega)
    have hrd : RdStrs w (.slice none 0 0) [] := ⟨none, 0, rfl, Nat.le_refl _, .inl rfl⟩
    have htx := texts_any (.slice none 0 0) (.slice none 0 0) [] [] w hrd hrd (Nat.zero_le _) (Nat.zero_le _)
    rw [decide_eq_true rfl] at htx
    generalize (t.length + 37) / 32 = n at *
    go_wp2_with fail
    refine hrp.mono ?_
    rintro e w2 ⟨rfl, rfl⟩
    go_wp2_with fail
    refine htx.mono ?_
    rintro e w3 ⟨rfl, q, rfl⟩
    have hb4 : Below w.heap.size w (w.drewN q) := (Below.refl _ _).drewN q
    generalize w.drewN q = w4 at *
    go_wp2_with fail
    refine (hsz _).mono ?_
    rintro e w5 ⟨rfl, rfl⟩
    go_wp2_with fail
    refine (hrsz _).mono ?_
    rintro e w5 ⟨rfl, rfl⟩
    go_wp2_with fail
    refine (works_any _).mono ?_
    rintro e w5 ⟨rfl, hb5⟩
    go_wp2_with fail
    go_ret
    exact ⟨rfl, below_then hb4 hb5⟩
end Go.Proofs.YtfggabhomkajjaaDoor
