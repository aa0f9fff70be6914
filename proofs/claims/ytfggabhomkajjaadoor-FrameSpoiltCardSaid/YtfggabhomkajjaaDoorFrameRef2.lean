/- frame: contracts of the document's functions. -/
import Derived.Test.YtfggabhomkajjaaDoorFrameRef
namespace Go.Proofs.YtfggabhomkajjaaDoor
open Go.RowKit Go.Wd

theorem rsize_any (l : List UInt8) (w : World) (hs : l.length ≤ 10000000) :
    Calls Tryd.prog 12 #[.string (Str l)] w fun e w' => e = .returned (.int .i64 ((l.length + 37) / 32 : Nat)) ∧ w = w' := by
  by_cases h : (6 + l.length) / 32 * 32 < 6 + l.length
  · have hd : decide ((6 + (l.length : Int)) / 32 * 32 < 6 + (l.length : Int)) = true := by simp; omega
    go_enter Tryd.func12, Tryd.ntmps12
    go_wp2_with fail
    go_ret
    exact ⟨congrArg (fun n => Ending.returned (.int .i64 n)) (by omega), rfl⟩
  · have hd : decide ((6 + (l.length : Int)) / 32 * 32 < 6 + (l.length : Int)) = false := by simp; omega
    go_enter Tryd.func12, Tryd.ntmps12
    go_wp2_with fail
    go_ret
    exact ⟨congrArg (fun n => Ending.returned (.int .i64 n)) (by omega), rfl⟩

set_option maxHeartbeats 2000000 in
theorem rwhole_any (l : List UInt8) (w : World) (hs : l.length ≤ 10000000) :
    Calls Tryd.prog 17 #[.string (Str l)] w fun e w' => e = .returned (.string (Str (padL l))) ∧ Below w.heap.size w w' := by
  have hn := Crc.sum_lt l
  go_enter Tryd.func17, Tryd.ntmps17
  go_wp2_with fail
  refine (rsum_str l _ (by omega)).mono ?_
  rintro e w1 ⟨rfl, rfl⟩
  have Hw : Hid (padL l = lenB l.length ++ ones32 (Crc.sum l) ++ l ++ List.replicate (32 * ((l.length + 37) / 32) - 6 - l.length) 0) := rfl
  generalize Crc.sum l = q at *
  go_wp2_with fail
  rw [show ((q : Int) / 16777216) = ((UInt8.ofNat (q / 16777216)).toNat : Int) by simp; omega,
    show ((q : Int) / 65536 % 256) = ((UInt8.ofNat (q / 65536)).toNat : Int) by simp,
    show ((q : Int) / 256 % 256) = ((UInt8.ofNat (q / 256)).toNat : Int) by simp,
    show ((q : Int) % 256) = ((UInt8.ofNat q).toNat : Int) by simp,
    show ((l.length : Int) / 256 % 256) = ((UInt8.ofNat (l.length / 256)).toNat : Int) by simp,
    show ((l.length : Int) % 256) = ((UInt8.ofNat l.length).toNat : Int) by simp]
  have ow : Own (w1.alloc (Obj.cells #[Value.int .u8 ((UInt8.ofNat (l.length / 256)).toNat : Int), Value.int .u8 ((UInt8.ofNat l.length).toNat : Int), Value.int .u8 ((UInt8.ofNat (q / 16777216)).toNat : Int), Value.int .u8 ((UInt8.ofNat (q / 65536)).toNat : Int), Value.int .u8 ((UInt8.ofNat (q / 256)).toNat : Int), Value.int .u8 ((UInt8.ofNat q).toNat : Int)] 5)) w1.heap.size (byteRow (lenB l.length ++ ones32 q)) 5 := Own.new _ _ _
  have hb : Below w1.heap.size w1 (w1.alloc (Obj.cells #[Value.int .u8 ((UInt8.ofNat (l.length / 256)).toNat : Int), Value.int .u8 ((UInt8.ofNat l.length).toNat : Int), Value.int .u8 ((UInt8.ofNat (q / 16777216)).toNat : Int), Value.int .u8 ((UInt8.ofNat (q / 65536)).toNat : Int), Value.int .u8 ((UInt8.ofNat (q / 256)).toNat : Int), Value.int .u8 ((UInt8.ofNat q).toNat : Int)] 5)) := (Below.refl _ _).alloc (Nat.le_refl _) _
  have hll : (lenB l.length ++ ones32 q).length = 6 := rfl
  generalize (w1.alloc (Obj.cells #[Value.int .u8 ((UInt8.ofNat (l.length / 256)).toNat : Int), Value.int .u8 ((UInt8.ofNat l.length).toNat : Int), Value.int .u8 ((UInt8.ofNat (q / 16777216)).toNat : Int), Value.int .u8 ((UInt8.ofNat (q / 65536)).toNat : Int), Value.int .u8 ((UInt8.ofNat (q / 256)).toNat : Int), Value.int .u8 ((UInt8.ofNat q).toNat : Int)] 5)) = w2 at *
  generalize lenB l.length ++ ones32 q = hd at *
  have hsz := fun W => rsize_any l W hs
  obtain ⟨sz, Hsz⟩ : ∃ sz, Hid ((l.length + 37) / 32 = sz) := ⟨_, rfl⟩
  rw [Hsz.out] at hsz Hw
  have b1 : l.length + 6 ≤ 32 * sz := by have := Hsz.out; omega
  have b2 : 32 * sz ≤ l.length + 37 := by have := Hsz.out; omega
  obtain ⟨m, Hm⟩ : ∃ m, Hid (32 * sz - 6 - l.length = m) := ⟨_, rfl⟩
  rw [Hm.out] at Hw
  have b3 : m ≤ 40 := by have := Hm.out; omega
  have HS := Lib.hid hsz
  clear hsz
  have e1 : IntKind.i64.wrap ((sz : Int) * 32) = (sz : Int) * 32 := IntWalk.i64_in _ (by omega)
  have e2 : IntKind.i64.wrap ((sz : Int) * 32 - 6) = (sz : Int) * 32 - 6 := IntWalk.i64_in _ (by omega)
  have e3 : IntKind.i64.wrap ((sz : Int) * 32 - 6 - (l.length : Int)) = (m : Int) := by rw [IntWalk.i64_in _ (by omega)]; have := Hm.out; omega
  have hmk := fun w => run_make_row' (P := Tryd.prog) 33 5 (.int .u8 0) 1 Tryd.underlying33 infoU8 rfl .i64 .i64 m (by omega) (by omega) w
  rw [made_bytes] at hmk
  have o3 : Own (w2.alloc (Obj.cells (byteRow (List.replicate m 0)) 5)).drew w1.heap.size (byteRow hd) 5 := (ow.alloc _).drew
  have o4 : Own (w2.alloc (Obj.cells (byteRow (List.replicate m 0)) 5)).drew w2.heap.size (byteRow (List.replicate m 0)) 5 := (Own.new _ _ _).drew
  have c1 := run_string_own ow.drew 33 9 5 0 6 6 hd Tryd.underlying33 Tryd.underlying5 Tryd.underlying9 hll (fun j hj => by rw [Nat.zero_add]; exact byteRow_at hj)
  have c2 := run_string_own o3 33 9 5 0 6 6 hd Tryd.underlying33 Tryd.underlying5 Tryd.underlying9 hll (fun j hj => by rw [Nat.zero_add]; exact byteRow_at hj)
  have c3 := run_string_own o4 33 9 5 0 m m (List.replicate m 0) Tryd.underlying33 Tryd.underlying5 Tryd.underlying9 (by simp) (fun j hj => by rw [Nat.zero_add]; exact byteRow_at hj)
  have hB2 : Below w1.heap.size w1 (w2.alloc (Obj.cells (byteRow (List.replicate m 0)) 5)).drew := (hb.alloc hb.size _).drew
  clear o3 o4 ow
  go_region_with (go_at_call 12; refine (HS.out _).mono ?_; rintro e w' ⟨rfl, rfl⟩)
  all_goals go_wp2_with fail
  all_goals go_ret
  all_goals exact ⟨congrArg (fun s => Ending.returned (Value.string (Str s))) (show hd ++ (l ++ List.replicate m 0) = padL l by rw [Hw.out, List.append_assoc]), hB2⟩
end Go.Proofs.YtfggabhomkajjaaDoor
