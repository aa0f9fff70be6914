/- frame: contracts of the program's functions. -/
import Derived.Test.YtjjidjlaijpnoaaGreatDoorSeal
import Derived.Test.YtjjidjlaijpnoaaGreatDoorShelf
import Derived.Deep.RegionHeld3
import Derived.BigRegion
set_option maxRecDepth 100000
namespace Go.Proofs.YtjjidjlaijpnoaaGreatDoor
open Go.RowKit Go.Wd

theorem join_flat (xs : List (List UInt8)) : Lib.join xs [] = xs.flatten := by
  cases xs with
  | nil => rfl
  | cons x r => rw [Lib.join_cons]; simp [Lib.joinTail]

theorem join_any (bk o c : Nat) (xs : List (List UInt8)) (w : World) (hcells : ∀ (j : Nat) x, xs[j]? = some x → w.cell? ⟨bk, o + j, none⟩ = some (.string (Str x))) (hbk : bk < w.heap.size)
    (hcap : xs.length ≤ c) (hlen : xs.flatten.length ≤ 100000000) (hN : xs.length ≤ 100000000) :
    Calls Tryz.prog 66 #[.slice (some ⟨bk, o, none⟩) xs.length c] w fun e w' => e = .returned (.string (Str xs.flatten)) ∧ Below w.heap.size w w' := by
  have hm : (xs.map Str).map (fun s : ByteArray => s.data.toList) = xs := by
    rw [List.map_map]
    exact List.map_id' xs
  have h := Tryz.strings_Join bk o c (xs.map Str) (Str []) w (fun j x hx => by
    rw [List.getElem?_map] at hx
    obtain ⟨y, hy, rfl⟩ := Option.map_eq_some_iff.1 hx
    exact hcells j y hy) hbk (by simp; omega) (by simpa using hcap) (by rw [hm, Str_data, join_flat]; omega)
  rw [hm, Str_data, join_flat, List.length_map] at h
  have H := Lib.hid h
  clear h hcells hm
  go_enter Tryz.func66, Tryz.ntmps66
  go_wp2_with fail
  refine (H.out).mono ?_
  rintro e w1 ⟨rfl, hb⟩
  go_wp2_with fail
  go_ret
  exact ⟨rfl, hb⟩

/-- Two bytes of a length. -/
def lenB (n : Nat) : List UInt8 := [UInt8.ofNat (n / 256), UInt8.ofNat n]
/-- A text's frame, without what fills it up. -/
def wholeL (l : List UInt8) : List UInt8 := lenB l.length ++ ones32 (Crc.sum l) ++ l

theorem whole_any (l : List UInt8) (w : World) (hs : l.length ≤ 10000000) :
    Calls Tryz.prog 69 #[.string (Str l)] w fun e w' => e = .returned (.string (Str (wholeL l))) ∧ Below w.heap.size w w' := by
  go_enter Tryz.func69, Tryz.ntmps69
  go_wp2_with fail
  refine (seal_any l _ (by omega)).mono ?_
  rintro e w1 ⟨rfl, hb1⟩
  have h4 := ones32_len (Crc.sum l)
  have Hw : Hid (wholeL l = lenB l.length ++ ones32 (Crc.sum l) ++ l) := rfl
  generalize ones32 (Crc.sum l) = q at *
  go_wp2_with fail
  have i1 : (0 : Int) ≤ (l.length : Int) := by omega
  have i2 : (l.length : Int) ≤ ((l ++ q).length : Int) := by simp; omega
  have hcv : Sem.run Tryz.prog (convert 23 9 (Value.slice (some ⟨w1.heap.size, 0, none⟩) 2 2))
      (w1.alloc (Obj.cells #[Value.int IntKind.u8 (IntKind.u8.wrap ((l.length : Int) / 256)), Value.int IntKind.u8 (IntKind.u8.wrap (l.length : Int))] 5)).drew =
      .ok (.string (Str (lenB l.length))) (w1.alloc (Obj.cells #[Value.int IntKind.u8 (IntKind.u8.wrap ((l.length : Int) / 256)), Value.int IntKind.u8 (IntKind.u8.wrap (l.length : Int))] 5)).drew :=
    run_string_own (Own.drew (Own.new _ _ _)) 23 9 5 0 2 2 (lenB l.length) Tryz.underlying23 Tryz.underlying5 Tryz.underlying9 rfl (fun j hj => by
      match j, hj with
      | 0, _ => simp [lenB, IntKind.wrap_u8']
      | 1, _ => simp [lenB, IntKind.wrap_u8']
      | j + 2, h => exact absurd h (by simp [lenB]))
  have hcv2 : Sem.run Tryz.prog (convert 23 9 (Value.slice (some ⟨w1.heap.size, 0, none⟩) 2 2))
      (w1.alloc (Obj.cells #[Value.int IntKind.u8 ((l.length : Int) / 256 % 256), Value.int IntKind.u8 ((l.length : Int) % 256)] 5)).drew =
      .ok (.string (Str (lenB l.length))) (w1.alloc (Obj.cells #[Value.int IntKind.u8 ((l.length : Int) / 256 % 256), Value.int IntKind.u8 ((l.length : Int) % 256)] 5)).drew := by
    rw [IntKind.wrap_u8', IntKind.wrap_u8'] at hcv; exact hcv
  have hlB : (lenB l.length).length = 2 := rfl
  have hj := join_any (w1.heap.size + 1) 0 3 [lenB l.length, q, l]
    ((w1.alloc (Obj.cells #[Value.int IntKind.u8 ((l.length : Int) / 256 % 256), Value.int IntKind.u8 ((l.length : Int) % 256)] 5)).alloc
      (Obj.cells #[Value.string (Str (lenB l.length)), Value.string (Str q), Value.string (Str l)] 9)).drew
    (fun j x hx => by
      have o := (Own.new (w1.alloc (Obj.cells #[Value.int IntKind.u8 ((l.length : Int) / 256 % 256), Value.int IntKind.u8 ((l.length : Int) % 256)] 5)) #[Value.string (Str (lenB l.length)), Value.string (Str q), Value.string (Str l)] 9).drew
      rw [World.size_alloc] at o
      rw [Nat.zero_add]
      refine o.cell' ?_
      match j, hx with
      | 0, hx => cases hx; rfl
      | 1, hx => cases hx; rfl
      | 2, hx => cases hx; rfl)
    (by simp) (by simp) (by simp; omega) (by simp)
  have HJ := Lib.hid hj
  have htk : List.take 4 q = q := List.take_of_length_le (by omega)
  clear hj
  go_region_with (go_at_call 66; refine (HJ.out).mono ?_; rintro e w2 ⟨rfl, hb2⟩)
  all_goals go_wp2_with fail
  all_goals go_ret
  all_goals
    refine ⟨by rw [Hw.out, List.append_assoc]; rfl, ?_⟩
    exact ((hb1.alloc hb1.size _).alloc (by have := hb1.size; simp; omega) _).drew.trans (hb2.mono (by have := hb1.size; simp; omega))
end Go.Proofs.YtjjidjlaijpnoaaGreatDoor
