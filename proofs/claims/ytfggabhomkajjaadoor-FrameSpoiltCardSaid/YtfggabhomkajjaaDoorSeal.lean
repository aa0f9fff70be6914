/- crc: Seal; the document's Sum. -/
import Derived.Test.YtfggabhomkajjaaDoorCrc
import Derived.Laws.BytesString
namespace Go.Proofs.YtfggabhomkajjaaDoor
open Go.RowKit Go.Wd

def ones32 (n : Nat) : List UInt8 := [UInt8.ofNat (n / 16777216), UInt8.ofNat (n / 65536), UInt8.ofNat (n / 256), UInt8.ofNat n]

theorem ones32_len (n : Nat) : (ones32 n).length = 4 := rfl

theorem sum_str (l : List UInt8) (w : World) (hs : l.length ≤ 140737488355328) :
    Calls Tryd.prog 30 #[.string (Str l)] w fun e w' => e = .returned (.int .u32 (Crc.sum l : Nat)) ∧ Below w.heap.size w w' := sum_any (Str l) w hs

theorem seal_any (l : List UInt8) (w : World) (hs : l.length ≤ 140737488355000) :
    Calls Tryd.prog 20 #[.string (Str l)] w fun e w' => e = .returned (.string (Str (l ++ ones32 (Crc.sum l)))) ∧ Below w.heap.size w w' := by
  have hlt := Crc.sum_lt l
  go_enter Tryd.func20, Tryd.ntmps20
  go_wp2_with fail
  refine (sum_str l _ (by omega)).mono ?_
  rintro e w1 ⟨rfl, hb1⟩
  have H : Hid (Str (l ++ ones32 (Crc.sum l)) = Str (l ++ ones32 (Crc.sum l))) := rfl
  generalize hn : Crc.sum l = n at hlt ⊢
  clear H
  have Hn := Lib.hid hn
  clear hn
  go_wp2_with fail
  rw [show ((n : Int) / 16777216) = ((UInt8.ofNat (n / 16777216)).toNat : Int) by simp; omega,
    show ((n : Int) / 65536 % 256) = ((UInt8.ofNat (n / 65536)).toNat : Int) by simp,
    show ((n : Int) / 256 % 256) = ((UInt8.ofNat (n / 256)).toNat : Int) by simp,
    show ((n : Int) % 256) = ((UInt8.ofNat n).toNat : Int) by simp]
  rw [run_string_own (Own.new _ _ _) 33 9 5 0 4 4 (ones32 n) Tryd.underlying33 Tryd.underlying5 Tryd.underlying9 rfl (fun j hj => by
    match j, hj with
    | 0, _ | 1, _ | 2, _ | 3, _ => rfl
    | j + 4, h => exact absurd h (by simp [ones32]))]
  have h4 := ones32_len n
  go_wp2_with fail
  go_ret
  exact ⟨by rw [Hn.out]; rfl, hb1.alloc hb1.size _⟩

theorem rsum_any (s : ByteArray) (w : World) (hs : s.size ≤ 140737488355328) :
    Calls Tryd.prog 21 #[.string s] w fun e w' => e = .returned (.int .u32 (Crc.sum s.data.toList : Nat)) ∧ w' = w := by
  go_enter Tryd.func21, Tryd.ntmps21
  go_wp2_with fail
  go_loop [3, 4, 5, 6, 7, 8, 9, 10, 11, 12, 13, 14, 15, 16, 17, 18, 19, 20, 21, 22, 23, 24, 25, 26, 27, 28, 29, 30]
    (fun n i _ _ _ _ _ _ _ _ _ _ _ _ _ _ _ _ _ _ _ _ _ _ _ _ _ _ => ∃ k : Nat, k ≤ s.size ∧ i = .int .i64 k ∧ n = .int .u32 (Crc.raw 4294967295 (s.data.toList.take k) : Nat))
    (fun n i _ _ _ _ _ _ _ _ _ _ _ _ _ _ _ _ _ _ _ _ _ _ _ _ _ _ => s.size - (intOf i).toNat)
  case atStart => exact ⟨0, Nat.zero_le _, rfl, rfl⟩
  case round =>
    obtain ⟨k, hk, rfl, rfl⟩ := hrel
    by_cases hlt : k < s.size
    · have hraw : Crc.raw 4294967295 (s.data.toList.take (k + 1)) = Crc.bss (Crc.raw 4294967295 (s.data.toList.take k) ^^^ s[k].toNat) 8 := by
        rw [List.take_succ_eq_append_getElem (by simpa using hlt), Crc.raw_snoc]; exact Crc.byt_bits _ _ (UInt8.toNat_lt _)
      have hn : Crc.raw 4294967295 (s.data.toList.take k) < 4294967296 := Crc.raw_lt _ (by decide)
      have hc : s[k].toNat < 256 := s[k].toNat_lt
      have Hraw := Lib.hid hraw
      clear hraw
      generalize Crc.raw 4294967295 (s.data.toList.take k) = n at *
      have hx := u32_xor_nat n s[k].toNat hn (by omega)
      have hxl : n ^^^ s[k].toNat < 4294967296 := Crc.xor_lt hn (by omega)
      generalize n ^^^ s[k].toNat = m at *
      go_wp2_with fail
      go_loop [3, 5, 6, 19, 20, 21, 22, 23, 24, 25, 26, 27, 28, 29, 30]
        (fun n i _ _ _ _ _ _ _ _ _ _ _ _ _ => ∃ j : Nat, j ≤ 8 ∧ i = .int .i64 j ∧ n = .int .u32 (Crc.bss m j : Nat))
        (fun n i _ _ _ _ _ _ _ _ _ _ _ _ _ => 8 - (intOf i).toNat)
      case atStart => exact ⟨0, Nat.zero_le _, rfl, rfl⟩
      case round =>
        obtain ⟨j, hj, rfl, rfl⟩ := hrel
        by_cases hj8 : j < 8
        · have hb : Crc.bss m (j + 1) = Crc.bs (Crc.bss m j) := rfl
          have hl := Crc.bss_lt hxl j
          have Hb := Lib.hid hb
          clear hb
          generalize Crc.bss m j = q at *
          have ha := u32_and_nat q 1 hl (by decide)
          rw [show ((1 : Nat) : Int) = 1 from rfl, nat_mask1] at ha
          by_cases hq : q % 2 = 1
          · have hb2 : ((Crc.bs q : Nat) : Int) = bits .xor .u32 ((q : Int) / 2) 3988292384 := by
              have := u32_xor_nat (q / 2) 3988292384 (by omega) (by decide)
              rw [show ((q / 2 : Nat) : Int) = (q : Int) / 2 by omega] at this
              unfold Crc.bs
              rw [if_pos hq]
              exact this.symm
            have Hb2 := Lib.hid hb2
            rw [hq] at ha
            clear hb2 hq
            go_wp2_with fail
            go_round
            case rel => exact ⟨j + 1, by omega, by go_num, by rw [Hb.out, Hb2.out]⟩
            case measure => simp [intOf]; omega
          · have hb2 : ((Crc.bs q : Nat) : Int) = (q : Int) / 2 := by
              unfold Crc.bs
              rw [if_neg hq]
              omega
            have Hb2 := Lib.hid hb2
            rw [show q % 2 = 0 by omega] at ha
            clear hb2 hq
            go_wp2_with fail
            go_round
            case rel => exact ⟨j + 1, by omega, by go_num, by rw [Hb.out, Hb2.out]⟩
            case measure => simp [intOf]; omega
        · obtain rfl : j = 8 := by omega
          rw [← Hraw.out]
          go_wp2_with fail
          go_round
          case rel => exact ⟨k + 1, by omega, by go_num, rfl⟩
          case measure => simp [intOf]; omega
    · obtain rfl : k = s.size := by omega
      have hn : Crc.raw 4294967295 s.data.toList < 4294967296 := Crc.raw_lt _ (by decide)
      have hx : bits .xor .u32 ((Crc.raw 4294967295 s.data.toList : Nat) : Int) 4294967295 = ((Crc.sum s.data.toList : Nat) : Int) := by
        have := u32_xor_nat (Crc.raw 4294967295 s.data.toList) 4294967295 hn (by decide)
        rw [Nat.xor_comm, Crc.xor_ones hn] at this
        exact this
      have Hx := Lib.hid hx
      rw [List.take_of_length_le (by simp)]
      clear hx
      generalize Crc.raw 4294967295 s.data.toList = n at *
      go_wp2_with fail
      go_ret
      exact ⟨by rw [← Hx.out]; rfl, rfl⟩

theorem rsum_str (l : List UInt8) (w : World) (hs : l.length ≤ 140737488355328) :
    Calls Tryd.prog 21 #[.string (Str l)] w fun e w' => e = .returned (.int .u32 (Crc.sum l : Nat)) ∧ w' = w := rsum_any (Str l) w hs
end Go.Proofs.YtfggabhomkajjaaDoor
