/- frame: plain facts for FrameBack. -/
import Derived.Test.YtfggabhomkajjaaDoorFrameLaw
namespace Go.Proofs.YtfggabhomkajjaaDoor
open Go.RowKit Go.Wd

/-- Bytes that begin as a text's frame does, but are too few or too many. -/
theorem runpackL_bad (ls : List (List UInt8)) (h : ∀ t, runpackL ls = some t → False) : runpackL ls = none := by
  cases hq : runpackL ls with
  | none => rfl
  | some t => exact (h t hq).elim

theorem runpackL_some {ls : List (List UInt8)} {t : List UInt8} (h : runpackL ls = some t) : ls.flatten ≠ [] ∧ num2 ls.flatten ≤ 8192 ∧ 6 + num2 ls.flatten ≤ ls.flatten.length ∧ t = (ls.flatten.drop 6).take (num2 ls.flatten) ∧ padL t = ls.flatten := by
  unfold runpackL at h
  split at h
  · split at h
    · cases h
    · rename_i h0
      unfold runpackA at h
      split at h
      · cases h
      · rename_i h1
        split at h
        · cases h
        · rename_i h2
          cases h
          refine ⟨fun h => h0 (.inl h), by omega, by omega, rfl, ?_⟩
          simpa using h2
  · cases h

theorem num2_append (a b : List UInt8) (h : 2 ≤ a.length) : num2 (a ++ b) = num2 a := by
  simp [num2, List.getD_eq_getElem?_getD, List.getElem?_append_left (show 0 < a.length by omega), List.getElem?_append_left (show 1 < a.length by omega)]

theorem num2_take (a : List UInt8) (m : Nat) (h : 2 ≤ m) : num2 (a.take m) = num2 a := by
  simp [num2, List.getD_eq_getElem?_getD, List.getElem?_take_of_lt (show 0 < m by omega), List.getElem?_take_of_lt (show 1 < m by omega)]

theorem flat_take (p : List (List UInt8)) (h : ∀ x ∈ p, x.length = 32) (m : Nat) : (p.take m).flatten = p.flatten.take (32 * m) := by
  induction p generalizing m with
  | nil => simp
  | cons x r ih =>
    cases m with
    | zero => simp
    | succ m =>
      have hx := h x (by simp)
      rw [List.take_succ_cons, List.flatten_cons, List.flatten_cons, ih (fun y hy => h y (by simp [hy])), List.take_append, List.take_of_length_le (show x.length ≤ 32 * (m + 1) by omega), show 32 * (m + 1) - x.length = 32 * m by omega]

/-- Without the last sector it is no text's. -/
theorem short_none (t : List UInt8) (h : t.length ≤ 8192) : runpackL ((packL t).take ((packL t).length - 1)) = none := by
  refine runpackL_bad _ fun s hs => ?_
  obtain ⟨h0, h1, h2, _, _⟩ := runpackL_some hs
  have hp := pack_len t
  have h32 := pack_all32 t
  have hf := pack_flat t
  have hpl := pad_len t
  have hfl : ((packL t).take ((packL t).length - 1)).flatten.length = 32 * ((packL t).length - 1) := by
    rw [flat32 _ (fun x hx => h32 x (List.mem_of_mem_take hx)), List.length_take]
    congr 1
    omega
  have hpre : ((packL t).take ((packL t).length - 1)).flatten = (padL t).take (32 * ((packL t).length - 1)) := by
    rw [← hf]; exact flat_take _ h32 _
  by_cases h1' : (packL t).length = 1
  · exact h0 (by rw [h1']; rfl)
  · rw [hpre, num2_take _ _ (by omega), pad_num t (by omega)] at h2
    rw [List.length_take] at h2
    omega

/-- With one more it is no text's. -/
theorem long_none (t : List UInt8) (h : t.length ≤ 8192) (z : List UInt8) (hz : z.length = 32) : runpackL (packL t ++ [z]) = none := by
  refine runpackL_bad _ fun s hs => ?_
  obtain ⟨h0, h1, h2, h3, h4⟩ := runpackL_some hs
  have hpl := pad_len t
  rw [List.flatten_append, pack_flat] at h3 h4
  have hn : num2 (padL t ++ [z].flatten) = t.length := by rw [num2_append _ _ (by omega), pad_num t (by omega)]
  rw [hn, List.drop_append_of_le_length (by omega), List.take_append_of_le_length (by simp; omega), pad_text] at h3
  subst h3
  have := congrArg List.length h4
  simp [hz] at this
end Go.Proofs.YtfggabhomkajjaaDoor
