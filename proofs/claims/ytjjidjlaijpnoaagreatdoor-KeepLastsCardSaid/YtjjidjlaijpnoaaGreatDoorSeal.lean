/- crc: Seal. -/
import Derived.Test.YtjjidjlaijpnoaaGreatDoorCrc
import Derived.Laws.BytesString
namespace Go.Proofs.YtjjidjlaijpnoaaGreatDoor
open Go.RowKit Go.Wd

def ones32 (n : Nat) : List UInt8 := [UInt8.ofNat (n / 16777216), UInt8.ofNat (n / 65536), UInt8.ofNat (n / 256), UInt8.ofNat n]

theorem ones32_len (n : Nat) : (ones32 n).length = 4 := rfl

theorem sum_str (l : List UInt8) (w : World) (hs : l.length ≤ 140737488355328) :
    Calls Tryz.prog 93 #[.string (Str l)] w fun e w' => e = .returned (.int .u32 (Crc.sum l : Nat)) ∧ Below w.heap.size w w' := sum_any (Str l) w hs

set_option maxRecDepth 100000 in
theorem seal_any (l : List UInt8) (w : World) (hs : l.length ≤ 140737488355000) :
    Calls Tryz.prog 85 #[.string (Str l)] w fun e w' => e = .returned (.string (Str (l ++ ones32 (Crc.sum l)))) ∧ Below w.heap.size w w' := by
  have hlt := Crc.sum_lt l
  go_enter Tryz.func85, Tryz.ntmps85
  go_wp2_with fail
  refine (sum_str l _ (by omega)).mono ?_
  rintro e w1 ⟨rfl, hb1⟩
  have H : Hid (Str (l ++ ones32 (Crc.sum l)) = Str (l ++ ones32 (Crc.sum l))) := rfl
  generalize hn : Crc.sum l = n at hlt ⊢
  clear H
  have Hn := Lib.hid hn
  clear hn
  go_wp2_with fail
  rw [show ((n : Int) / 16777216) = ((UInt8.ofNat (n / 16777216)).toNat : Int) by simp; omega,
    show ((n : Int) / 65536 % 256) = ((UInt8.ofNat (n / 65536)).toNat : Int) by simp,
    show ((n : Int) / 256 % 256) = ((UInt8.ofNat (n / 256)).toNat : Int) by simp,
    show ((n : Int) % 256) = ((UInt8.ofNat n).toNat : Int) by simp]
  rw [run_string_own (Own.new _ _ _) 23 9 5 0 4 4 (ones32 n) Tryz.underlying23 Tryz.underlying5 Tryz.underlying9 rfl (fun j hj => by
    match j, hj with
    | 0, _ | 1, _ | 2, _ | 3, _ => rfl
    | j + 4, h => exact absurd h (by simp [ones32]))]
  have h4 := ones32_len n
  go_wp2_with fail
  go_ret
  exact ⟨by rw [Hn.out]; rfl, hb1.alloc hb1.size _⟩
end Go.Proofs.YtjjidjlaijpnoaaGreatDoor
