/- frame: a text's sectors, and back. -/
import Derived.Test.YtjjidjlaijpnoaaGreatDoorFrameRef
namespace Go.Proofs.YtjjidjlaijpnoaaGreatDoor
open Go.RowKit Go.Wd
theorem chunks_all32 (k : Nat) : ∀ (l : List UInt8), l.length ≤ k → ∀ x ∈ chunks l, x.length = 32 := by
  induction k with
  | zero => intro l h; obtain rfl : l = [] := List.eq_nil_of_length_eq_zero (by omega); intro x hx; simp [chunks_nil] at hx
  | succ k ih =>
    intro l h x hx
    by_cases h0 : l = []
    · subst h0; simp [chunks_nil] at hx
    · have hpos : 0 < l.length := List.length_pos_iff.2 h0
      rw [chunks_cons h0] at hx
      rcases List.mem_cons.1 hx with rfl | hx
      · exact pad32_len l
      · exact ih _ (by simp; omega) x hx

/-- A text's sectors. -/
def packL (t : List UInt8) : List (List UInt8) := chunks (wholeL t)
theorem pack_all32 (t : List UInt8) : ∀ x ∈ packL t, x.length = 32 := chunks_all32 _ _ (Nat.le_refl _)
theorem pack_flat (t : List UInt8) : (packL t).flatten = padL t := by
  unfold packL
  rw [← chunks_padL]
  exact chunks_flat _ _ (Nat.le_refl _) (by rw [pad_len]; omega)
theorem pack_len (t : List UInt8) : (packL t).length = (t.length + 37) / 32 := by
  have h := flat32 (packL t) (pack_all32 t)
  rw [pack_flat, pad_len] at h
  omega
theorem pad_num (t : List UInt8) (h : t.length < 65536) : num2 (padL t) = t.length := by
  simp [num2, padL, wholeL, lenB]
  omega
theorem pad_text (t : List UInt8) : ((padL t).drop 6).take t.length = t := by
  simp [padL, wholeL, lenB, ones32]
theorem pack_back (t : List UInt8) (h : t.length ≤ 8192) : runpackL (packL t) = some t := by
  have hl := pack_len t
  have hall : ((packL t).take 301).all (fun s => s.length == 32) = true := by
    rw [List.all_eq_true]
    intro x hx
    simpa using pack_all32 t x (List.mem_of_mem_take hx)
  unfold runpackL
  rw [if_pos hall, pack_flat, if_neg, runpackA, pad_num t (by omega), if_neg, pad_text, if_neg]
  · simp
  · rw [pad_len]; omega
  · intro h'
    rcases h' with h' | h'
    · have := congrArg List.length h'
      rw [pad_len] at this
      simp at this
      omega
    · omega

theorem pack_rd' (l : List UInt8) (w : World) (hs : l.length ≤ 8192) :
    Calls Tryz.prog 60 #[.string (Str l)] w fun e w' => ∃ v, e = .returned (.tuple #[v, .int .i64 0]) ∧
      w'.ownsRow w.heap.size 9 1 v (packL l).length (strs (packL l)) ∧ Below w.heap.size w w' := pack_any l w hs
end Go.Proofs.YtjjidjlaijpnoaaGreatDoor
