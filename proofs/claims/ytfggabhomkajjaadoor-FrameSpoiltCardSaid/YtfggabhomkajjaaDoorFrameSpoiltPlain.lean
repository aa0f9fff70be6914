/- frame: plain facts for FrameSpoilt. -/
import Derived.Test.YtfggabhomkajjaaDoorFrameBackPlain
set_option linter.unusedVariables false
set_option linter.unusedSimpArgs false
namespace Go.Proofs.YtfggabhomkajjaaDoor
open Go.RowKit Go.Wd

theorem flat_set : ∀ (p : List (List UInt8)) (q r : Nat) (x : List UInt8) (b : UInt8), (∀ y ∈ p, y.length = 32) → p[q]? = some x → r < 32 → (p.set q (x.set r b)).flatten = p.flatten.set (32 * q + r) b
  | [], q, r, x, b, _, hx, _ => by simp at hx
  | a :: p, 0, r, x, b, h, hx, hr => by
    have ha := h a (by simp)
    simp only [List.getElem?_cons_zero, Option.some.injEq] at hx
    subst hx
    rw [List.set_cons_zero, List.flatten_cons, List.flatten_cons, show 32 * 0 + r = r by omega, List.set_append_left _ _ (by omega)]
  | a :: p, q + 1, r, x, b, h, hx, hr => by
    have ha := h a (by simp)
    rw [List.getElem?_cons_succ] at hx
    rw [List.set_cons_succ, List.flatten_cons, List.flatten_cons, flat_set p q r x b (fun y hy => h y (by simp [hy])) hx hr, List.set_append_right _ _ (by omega)]
    congr 2
    omega
theorem flat_get : ∀ (p : List (List UInt8)) (q r : Nat) (x : List UInt8), (∀ y ∈ p, y.length = 32) → p[q]? = some x → r < 32 → p.flatten[32 * q + r]? = x[r]?
  | [], q, r, x, _, hx, _ => by simp at hx
  | a :: p, 0, r, x, h, hx, hr => by
    have ha := h a (by simp)
    simp only [List.getElem?_cons_zero, Option.some.injEq] at hx
    subst hx
    rw [List.flatten_cons, show 32 * 0 + r = r by omega, List.getElem?_append_left (by omega)]
  | a :: p, q + 1, r, x, h, hx, hr => by
    have ha := h a (by simp)
    rw [List.getElem?_cons_succ] at hx
    rw [List.flatten_cons, List.getElem?_append_right (by omega), ← flat_get p q r x (fun y hy => h y (by simp [hy])) hx hr]
    congr 1
    omega

theorem num2_set (l : List UInt8) (k : Nat) (b : UInt8) (h : 2 ≤ k) : num2 (l.set k b) = num2 l := by
  simp [num2, List.getD_eq_getElem?_getD, List.getElem?_set_ne (show k ≠ 0 by omega), List.getElem?_set_ne (show k ≠ 1 by omega)]

theorem ones32_inj {a b : Nat} (ha : a < 4294967296) (hb : b < 4294967296) (h : ones32 a = ones32 b) : a = b := by
  simp only [ones32, List.cons.injEq, and_true] at h
  obtain ⟨h1, h2, h3, h4⟩ := h
  have e1 := congrArg UInt8.toNat h1
  have e2 := congrArg UInt8.toNat h2
  have e3 := congrArg UInt8.toNat h3
  have e4 := congrArg UInt8.toNat h4
  simp only [UInt8.toNat_ofNat'] at e1 e2 e3 e4
  omega

/-- A text's sum, as it lies in its frame. -/
theorem pad_sum (t : List UInt8) : ((padL t).drop 2).take 4 = ones32 (Crc.sum t) := by
  simp [padL, wholeL, lenB, ones32]

/-- One byte that is another one. -/
theorem spoilt_none (t : List UInt8) (h : t.length ≤ 8192) (k q r : Nat) (x : List UInt8) (b : UInt8) (hk : 2 ≤ k) (hkq : k = 32 * q + r) (hr : r < 32) (hx : (packL t)[q]? = some x) (hb : x[r]? ≠ some b) : runpackL ((packL t).set q (x.set r b)) = none := by
  refine runpackL_bad _ fun s hs => ?_
  obtain ⟨_, _, h2, h3, h4⟩ := runpackL_some hs
  have h32 := pack_all32 t
  rw [flat_set _ _ _ _ _ h32 hx hr, pack_flat, ← hkq] at h2 h3 h4
  rw [num2_set _ _ _ hk, pad_num t (by omega)] at h2 h3
  have hget : (padL t)[k]? = x[r]? := by rw [← pack_flat, hkq]; exact flat_get _ _ _ _ h32 hx hr
  have hpl := pad_len t
  have hkl : k < (padL t).length := by
    rcases Nat.lt_or_ge k (padL t).length with h | h
    · exact h
    · exfalso
      have hxl : x.length = 32 := h32 x (List.mem_of_getElem? hx)
      rw [List.getElem?_eq_none h, List.getElem?_eq_getElem (by omega)] at hget
      cases hget
  have hsame : s ≠ t := fun e => by
    subst e
    have := congrArg (fun l => l[k]?) h4
    simp only [List.getElem?_set_self hkl] at this
    rw [hget] at this
    exact hb this
  have htext : s = if 6 ≤ k ∧ k < 6 + t.length then t.set (k - 6) b else t := by
    rw [h3]
    by_cases h6 : 6 ≤ k
    · rw [List.drop_set, if_neg (by omega), List.take_set, pad_text]
      by_cases h7 : k < 6 + t.length
      · rw [if_pos ⟨h6, h7⟩]
      · rw [if_neg (by omega), List.set_eq_of_length_le (by omega)]
    · rw [if_neg (by omega), List.drop_set, if_pos (by omega), pad_text]
  by_cases hin : 6 ≤ k ∧ k < 6 + t.length
  · rw [if_pos hin] at htext
    have hsum : Crc.sum s = Crc.sum t := by
      refine ones32_inj (Crc.sum_lt s) (Crc.sum_lt t) ?_
      rw [← pad_sum s, ← pad_sum t, h4, List.drop_set, if_neg (by omega), List.take_set, List.set_eq_of_length_le (by rw [List.length_take]; omega)]
    have hlt : k - 6 < t.length := by omega
    have e1 : t = t.take (k - 6) ++ t[k - 6] :: t.drop (k - 6 + 1) := by rw [List.getElem_cons_drop, List.take_append_drop]
    have e2 : s = t.take (k - 6) ++ b :: t.drop (k - 6 + 1) := by rw [htext, List.set_eq_take_append_cons_drop, if_pos hlt]
    have hne : t[k - 6] ≠ b := fun e => hsame (by rw [e2, ← e]; exact e1.symm)
    rw [e2] at hsum
    have hsum' : Crc.sum (t.take (k - 6) ++ b :: t.drop (k - 6 + 1)) = Crc.sum (t.take (k - 6) ++ t[k - 6] :: t.drop (k - 6 + 1)) := by rw [hsum]; congr 1
    exact Crc.sum_ne _ _ _ _ hne hsum'.symm
  · rw [if_neg hin] at htext
    exact hsame htext
end Go.Proofs.YtfggabhomkajjaaDoor
