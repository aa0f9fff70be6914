/- frame: Pack and Size. -/
import Derived.Test.YtjjidjlaijpnoaaGreatDoorFrame
import Derived.OwnWalk
import Derived.Maps.AppendAt
set_option maxRecDepth 100000
namespace Go.Proofs.YtjjidjlaijpnoaaGreatDoor
open Go.RowKit Go.Wd

/-- A sector's bytes, filled up. -/
def pad32 (l : List UInt8) : List UInt8 := l.take 32 ++ (List.replicate 32 0).drop l.length
/-- Sectors of bytes. -/
def chunksN : Nat → List UInt8 → List (List UInt8)
  | 0, _ => []
  | n + 1, l => if l = [] then [] else pad32 l :: chunksN n (l.drop 32)
def chunks (l : List UInt8) : List (List UInt8) := chunksN l.length l
theorem chunksN_more (n : Nat) : ∀ (m : Nat) (l : List UInt8), l.length ≤ n → n ≤ m → chunksN m l = chunksN n l := by
  induction n with
  | zero =>
    intro m l h _
    obtain rfl : l = [] := List.eq_nil_of_length_eq_zero (by omega)
    cases m <;> simp [chunksN]
  | succ n ih =>
    intro m l h hm
    cases m with
    | zero => omega
    | succ m =>
      simp only [chunksN]
      split
      · rfl
      · rw [ih m _ (by simp; omega) (by omega)]
theorem chunks_nil : chunks [] = [] := rfl
theorem chunks_cons {l : List UInt8} (h : l ≠ []) : chunks l = pad32 l :: chunks (l.drop 32) := by
  have hl : 0 < l.length := List.length_pos_iff.2 h
  unfold chunks
  obtain ⟨n, hn⟩ : ∃ n, l.length = n + 1 := ⟨l.length - 1, by omega⟩
  rw [hn]
  simp only [chunksN, if_neg h]
  rw [chunksN_more (l.drop 32).length n _ (Nat.le_refl _) (by simp; omega)]
theorem chunks_len (l : List UInt8) : ∀ n, l.length ≤ 32 * n → (chunks l).length ≤ n := by
  suffices ∀ k (l : List UInt8), l.length ≤ k → ∀ n, l.length ≤ 32 * n → (chunks l).length ≤ n from this _ l (Nat.le_refl _)
  intro k
  induction k with
  | zero => intro l hk n _; obtain rfl : l = [] := List.eq_nil_of_length_eq_zero (by omega); simp [chunks_nil]
  | succ k ih =>
    intro l hk n hn
    by_cases h : l = []
    · subst h; simp [chunks_nil]
    · have hl : 0 < l.length := List.length_pos_iff.2 h
      rw [chunks_cons h]
      have := ih (l.drop 32) (by simp; omega) (n - 1) (by simp; omega)
      simp; omega
theorem pad32_len (l : List UInt8) : (pad32 l).length = 32 := by simp [pad32]; omega

def zeros32 : Array Value := #[Value.int IntKind.u8 0, Value.int IntKind.u8 0, Value.int IntKind.u8 0, Value.int IntKind.u8 0, Value.int IntKind.u8 0, Value.int IntKind.u8 0, Value.int IntKind.u8 0, Value.int IntKind.u8 0, Value.int IntKind.u8 0, Value.int IntKind.u8 0, Value.int IntKind.u8 0, Value.int IntKind.u8 0, Value.int IntKind.u8 0, Value.int IntKind.u8 0, Value.int IntKind.u8 0, Value.int IntKind.u8 0, Value.int IntKind.u8 0, Value.int IntKind.u8 0, Value.int IntKind.u8 0, Value.int IntKind.u8 0, Value.int IntKind.u8 0, Value.int IntKind.u8 0, Value.int IntKind.u8 0, Value.int IntKind.u8 0, Value.int IntKind.u8 0, Value.int IntKind.u8 0, Value.int IntKind.u8 0, Value.int IntKind.u8 0, Value.int IntKind.u8 0, Value.int IntKind.u8 0, Value.int IntKind.u8 0, Value.int IntKind.u8 0]
theorem zeros32_eq : zeros32 = byteRow (List.replicate 32 0) := rfl

/-- Strings as cells. -/
def strs (ls : List (List UInt8)) : List Value := ls.map fun l => Value.string (Str l)
theorem strs_snoc (ls : List (List UInt8)) (l : List UInt8) : strs (ls ++ [l]) = strs ls ++ [.string (Str l)] := by simp [strs]
theorem strs_len (ls : List (List UInt8)) : (strs ls).length = ls.length := by simp [strs]

theorem size_any (l : List UInt8) (w : World) (hs : l.length ≤ 10000000) :
    Calls Tryz.prog 67 #[.string (Str l)] w fun e w' => e = .returned (.int .i64 ((l.length + 37) / 32 : Nat)) ∧ w = w' := by
  go_enter Tryz.func67, Tryz.ntmps67
  go_wp2_with fail
  go_ret
  exact ⟨congrArg (fun n => Ending.returned (.int .i64 n)) (by omega), rfl⟩

theorem infoStr : (Tryz.prog.info? 9).map (fun i => (i.zero, i.size, i.bytes)) = some (some (.string (Str [])), 1, 16) := by kernel_rfl
theorem infoU8 : (Tryz.prog.info? 5).map (fun i => (i.zero, i.size, i.bytes)) = some (some (.int .u8 0), 1, 1) := by kernel_rfl

theorem pack_long (l : List UInt8) (w : World) (hs : 8192 < l.length) (hs2 : l.length ≤ 100000000000) :
    Calls Tryz.prog 60 #[.string (Str l)] w fun e w' => e = .returned (.tuple #[.slice none 0 0, .int .i64 3]) ∧ w = w' := by
  go_enter Tryz.func60, Tryz.ntmps60
  go_wp2_with fail
  go_ret2
  exact ⟨rfl, rfl⟩

theorem pack_any (l : List UInt8) (w : World) (hs : l.length ≤ 8192) :
    Calls Tryz.prog 60 #[.string (Str l)] w fun e w' => ∃ v, e = .returned (.tuple #[v, .int .i64 0]) ∧
      w'.ownsRow w.heap.size 9 1 v (chunks (wholeL l)).length (strs (chunks (wholeL l))) ∧ Below w.heap.size w w' := by
  obtain ⟨i0, hi, hz0, hz1, hz2⟩ := info_parts infoStr
  have hwl : (wholeL l).length = l.length + 6 := by simp [wholeL, lenB, ones32_len]; omega
  go_enter Tryz.func60, Tryz.ntmps60
  go_wp2_with fail
  refine (whole_any l _ (by omega)).mono ?_
  rintro e w1 ⟨rfl, hb1⟩
  generalize hall : wholeL l = all at *
  have Hall := Lib.hid hall
  clear hall
  go_wp2_with fail
  have hcl : (chunks all).length ≤ 300 := chunks_len all 300 (by omega)
  go_loopw [4, 5, 6, 7, 13, 14, 15, 16, 17, 18, 19, 20, 21, 22, 23, 24, 25] (fun v s _ _ _ _ _ _ _ _ _ _ _ _ _ _ _ wr => ∃ (done : List (List UInt8)) (left : List UInt8), chunks all = done ++ chunks left ∧ left.length ≤ all.length ∧ s = .string (Str left) ∧
      wr.ownsRow w.heap.size 9 1 v done.length (strs done) ∧ Below w.heap.size w wr)
    (fun _ s _ _ _ _ _ _ _ _ _ _ _ _ _ _ _ _ => match s with | .string b => b.size | _ => 0)
  case atStart => exact ⟨[], all, rfl, Nat.le_refl _, rfl, World.ownsRow_nil _ _ _ _, hb1⟩
  case round =>
    obtain ⟨done, left, hch, hll, rfl, hown, hB⟩ := hrel
    by_cases hl0 : left = []
    · subst hl0
      rw [chunks_nil, List.append_nil] at hch
      have Hch := Lib.hid hch
      clear hch
      go_wp2_with fail
      go_ret2
      exact ⟨_, rfl, by rw [Hall.out, Hch.out]; exact hown, hB⟩
    · have hl2 : (!left.isEmpty) = true := by simpa using hl0
      have hpos : 0 < left.length := List.length_pos_iff.2 hl0
      rw [chunks_cons hl0] at hch
      have hdl : done.length < 300 := by rw [hch] at hcl; simp at hcl; omega
      have Hch := Lib.hid hch
      clear hch
      obtain ⟨n, Hn⟩ : ∃ n, Hid (min left.length 32 = n) := ⟨_, rfl⟩
      have hn1 : n ≤ left.length := by have := Hn.out; omega
      have hn0 : 0 < n := by have := Hn.out; omega
      have hcp : Sem.run Tryz.prog (Builtin.copy_ #[23, 9] 3 #[Value.slice (some { block := wr.heap.size, off := 0 }) 32 32, Value.string (Str left)])
          (wr.alloc (Obj.cells #[Value.int IntKind.u8 0, Value.int IntKind.u8 0, Value.int IntKind.u8 0, Value.int IntKind.u8 0, Value.int IntKind.u8 0, Value.int IntKind.u8 0, Value.int IntKind.u8 0, Value.int IntKind.u8 0, Value.int IntKind.u8 0, Value.int IntKind.u8 0, Value.int IntKind.u8 0, Value.int IntKind.u8 0, Value.int IntKind.u8 0, Value.int IntKind.u8 0, Value.int IntKind.u8 0, Value.int IntKind.u8 0, Value.int IntKind.u8 0, Value.int IntKind.u8 0, Value.int IntKind.u8 0, Value.int IntKind.u8 0, Value.int IntKind.u8 0, Value.int IntKind.u8 0, Value.int IntKind.u8 0, Value.int IntKind.u8 0, Value.int IntKind.u8 0, Value.int IntKind.u8 0, Value.int IntKind.u8 0, Value.int IntKind.u8 0, Value.int IntKind.u8 0, Value.int IntKind.u8 0, Value.int IntKind.u8 0, Value.int IntKind.u8 0] 133)) = .ok (goInt (n : Nat)) (wr.alloc (Obj.cells (byteRow (pad32 left)) 133)) := by
        rw [← Hn.out]
        exact run_copy_new wr 23 9 3 5 32 32 left (List.replicate 32 0) 133 Tryz.underlying23 (by kernel_rfl) rfl
      have hcs : Sem.run Tryz.prog (convert 23 9 (Value.slice (some { block := wr.heap.size, off := 0 }) 32 32)) (wr.alloc (Obj.cells (byteRow (pad32 left)) 133)) =
          .ok (.string (Str (pad32 left))) (wr.alloc (Obj.cells (byteRow (pad32 left)) 133)) :=
        run_string_own (Own.new _ _ _) 23 9 5 0 32 32 (pad32 left) Tryz.underlying23 Tryz.underlying5 Tryz.underlying9 (pad32_len left) (fun j hj => by rw [Nat.zero_add]; exact byteRow_at hj)
      have hBs := hB.size
      go_wp2_with (at_builtin; refine wpList_append_own _ rfl _ _ 59 rfl w.heap.size 9 i0 (.string (Str [])) 1 16 Tryz.underlying59 hi hz0 hz1 hz2 rfl (by decide) _ _ _ rfl ((hown.alloc _).alloc _) ⟨wr.heap.size + 1, 0, none⟩ 1 1 [.string (Str (pad32 left))] rfl rfl ?c1 ?c2 ?c3 ?c4 ?c5 ?_)
      case c1 =>
        have := cell_one_new (wr.alloc (Obj.cells (byteRow (pad32 left)) 133)) (.string (Str (pad32 left))) 9
        rw [World.size_alloc] at this
        exact this
      case c2 => simp [Value.oneCell']
      case c3 => unfold maxLen; omega
      case c4 => omega
      case c5 => simp; omega
      intro v' w2 hown' hgrow _
      rw [← strs_snoc] at hown'
      have hB2 : Below w.heap.size w w2 := ((hB.alloc hB.size _).alloc (by simp; omega) _).grown hgrow (by simp; omega) (fun k hk => (hown.lt k hk).1)
      clear hown hB hcp hcs hgrow
      have hi1 : (n : Int) ≤ (left.length : Int) := by omega
      go_wp2_with fail
      go_roundw
      case rel =>
        refine ⟨done ++ [pad32 left], left.drop 32, by rw [Hch.out]; simp, by simp; omega, ?_, by simpa using hown', hB2⟩
        rw [← Hn.out]
        congr 2
        rcases Nat.le_total left.length 32 with h | h
        · rw [Nat.min_eq_left h, List.drop_eq_nil_of_le (Nat.le_refl _), List.drop_eq_nil_of_le h]
        · rw [Nat.min_eq_right h]
      case measure => simp [Str_size]; omega
end Go.Proofs.YtjjidjlaijpnoaaGreatDoor
