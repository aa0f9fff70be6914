/- frame: the document's functions, and that they answer as the program's. -/
import Derived.Test.YtjjidjlaijpnoaaGreatDoorUnpack
namespace Go.Proofs.YtjjidjlaijpnoaaGreatDoor
open Go.RowKit Go.Wd

/-! ### Plain -/
/-- A text's frame, filled up. -/
def padL (l : List UInt8) : List UInt8 := wholeL l ++ List.replicate (32 * ((l.length + 37) / 32) - 6 - l.length) 0

theorem whole_len (l : List UInt8) : (wholeL l).length = l.length + 6 := by simp [wholeL, lenB, ones32_len]; omega
theorem pad_len (l : List UInt8) : (padL l).length = 32 * ((l.length + 37) / 32) := by
  unfold padL; rw [List.length_append, whole_len, List.length_replicate]; omega

theorem chunks_zeros (k : Nat) : ∀ (l : List UInt8) (m : Nat), l.length ≤ k → l.length + m = 32 * ((l.length + 31) / 32) → chunks (l ++ List.replicate m 0) = chunks l := by
  induction k with
  | zero =>
    intro l m h hm
    obtain rfl : l = [] := List.eq_nil_of_length_eq_zero (by omega)
    obtain rfl : m = 0 := by simp at hm; omega
    rfl
  | succ k ih =>
    intro l m h hm
    by_cases h0 : l = []
    · subst h0
      obtain rfl : m = 0 := by simp at hm; omega
      rfl
    · have hpos : 0 < l.length := List.length_pos_iff.2 h0
      rw [chunks_cons (by simp [h0]), chunks_cons h0]
      by_cases h32 : 32 ≤ l.length
      · have e1 : pad32 (l ++ List.replicate m 0) = pad32 l := by
          unfold pad32
          rw [List.take_append_of_le_length h32, List.drop_eq_nil_of_le (by simp; omega), List.drop_eq_nil_of_le (by simp; omega)]
        rw [e1, List.drop_append_of_le_length h32, ih (l.drop 32) m (by simp; omega) (by simp; omega)]
      · have hm' : m = 32 - l.length := by omega
        have e1 : pad32 (l ++ List.replicate m 0) = pad32 l := by
          unfold pad32
          rw [List.take_of_length_le (by simp; omega), List.drop_eq_nil_of_le (by simp; omega), List.append_nil, List.take_of_length_le (by omega : l.length ≤ 32), List.drop_replicate, hm']
        rw [e1, List.drop_eq_nil_of_le (by simp; omega), List.drop_eq_nil_of_le (by omega : l.length ≤ 32)]

theorem chunks_padL (l : List UInt8) : chunks (padL l) = chunks (wholeL l) := by
  unfold padL
  exact chunks_zeros _ (wholeL l) _ (Nat.le_refl _) (by rw [whole_len]; omega)

theorem chunks_flat (k : Nat) : ∀ (l : List UInt8), l.length ≤ k → l.length % 32 = 0 → (chunks l).flatten = l := by
  induction k with
  | zero => intro l h _; obtain rfl : l = [] := List.eq_nil_of_length_eq_zero (by omega); rfl
  | succ k ih =>
    intro l h hm
    by_cases h0 : l = []
    · subst h0; rfl
    · have hpos : 0 < l.length := List.length_pos_iff.2 h0
      rw [chunks_cons h0, List.flatten_cons, ih (l.drop 32) (by simp; omega) (by simp; omega)]
      unfold pad32
      rw [List.drop_eq_nil_of_le (by simp; omega), List.append_nil, List.take_append_drop]

/-- Bytes, read as a text, as the document says. -/
def runpackA (all : List UInt8) : Option (List UInt8) :=
  if 8192 < num2 all ∨ all.length < 6 + num2 all then none
  else if padL ((all.drop 6).take (num2 all)) ≠ all then none
  else some ((all.drop 6).take (num2 all))

theorem dropWhile_all {l : List UInt8} : l.dropWhile (· == 0) = [] ↔ l = List.replicate l.length 0 := by
  induction l with
  | nil => simp
  | cons x r ih =>
    by_cases hx : x = 0
    · subst hx
      simp only [List.dropWhile_cons, beq_self_eq_true, if_true, List.length_cons, List.replicate_succ, List.cons.injEq, true_and]
      exact ih
    · simp [hx, List.replicate_succ]

theorem trim_zero {l : List UInt8} : Lib.trimB l 0 = [] ↔ l = List.replicate l.length 0 := by
  unfold Lib.trimB Lib.trimLeftB Lib.trimRightB
  rw [dropWhile_all]
  constructor
  · intro h
    have h2 : (l.reverse.dropWhile (· == 0)) = List.replicate (l.reverse.dropWhile (· == 0)).length 0 := by
      have := congrArg List.reverse h
      simpa using this
    have h3 : l.reverse.dropWhile (· == 0) = [] := by
      cases hc : l.reverse.dropWhile (· == 0) with
      | nil => rfl
      | cons x r =>
        rw [hc, List.length_cons, List.replicate_succ] at h2
        have hx : x = 0 := (List.cons.inj h2).1
        have := List.head_dropWhile_not (p := fun x : UInt8 => x == 0) (l := l.reverse) (by rw [hc]; simp)
        simp [hc, hx] at this
    rw [dropWhile_all] at h3
    have := congrArg List.reverse h3
    simpa using this
  · intro h
    have h3 : l.reverse.dropWhile (· == 0) = [] := by
      rw [dropWhile_all]
      have := congrArg List.reverse h
      simpa using this
    rw [h3]; rfl

/-- Both read alike. -/
theorem unpackA_eq (cnt : Nat) (all : List UInt8) (h0 : all ≠ []) (hl : all.length = 32 * cnt) : unpackA cnt all = runpackA all := by
  unfold unpackA runpackA
  rw [if_neg h0]
  by_cases h1 : 8192 < num2 all ∨ all.length < 6 + num2 all
  · rw [if_pos h1, if_pos h1]
  · rw [if_neg h1, if_neg h1]
    generalize hn : num2 all = n at *
    have ht : ((all.drop 6).take n).length = n := by simp; omega
    generalize htt : (all.drop 6).take n = t at *
    have hd : (all.drop (6 + n)).length = 32 * cnt - (6 + n) := by simp; omega
    have hsplit : all = all.take (6 + n) ++ all.drop (6 + n) := (List.take_append_drop _ _).symm
    have key : padL t = all ↔ ((n + 37) / 32 = cnt ∧ Lib.trimB (all.drop (6 + n)) 0 = [] ∧ wholeL t = all.take (6 + n)) := by
      rw [trim_zero, hd]
      constructor
      · intro h
        have hlen := congrArg List.length h
        rw [pad_len, ht, hl] at hlen
        have hc : (n + 37) / 32 = cnt := by omega
        refine ⟨hc, ?_, ?_⟩
        · have := congrArg (List.drop (6 + n)) h
          unfold padL at this
          rw [List.drop_append_of_le_length (by rw [whole_len]; omega), List.drop_eq_nil_of_le (by rw [whole_len]; omega), List.nil_append, ht, hc] at this
          rw [← this]
          congr 1; omega
        · have := congrArg (List.take (6 + n)) h
          unfold padL at this
          rw [List.take_append_of_le_length (by rw [whole_len]; omega), List.take_of_length_le (by rw [whole_len]; omega)] at this
          exact this
      · rintro ⟨hc, hz, hw⟩
        unfold padL
        rw [hw, ht, hc]
        conv => rhs; rw [hsplit, hz]
        congr 2; omega
    by_cases hk : padL t = all
    · obtain ⟨a, b, c⟩ := key.1 hk
      rw [if_neg (by simpa using a), if_neg (by simpa using b), if_neg (by simpa using c), if_neg (by simpa using hk)]
    · have hR : (if padL t ≠ all then none else some t) = none := if_pos hk
      rw [hR]
      by_cases a : (n + 37) / 32 = cnt
      · rw [if_neg (fun h => h a)]
        by_cases b : Lib.trimB (all.drop (6 + n)) 0 = []
        · rw [if_neg (fun h => h b)]
          by_cases c : wholeL t = all.take (6 + n)
          · exact absurd (key.2 ⟨a, b, c⟩) hk
          · rw [if_pos c]
        · rw [if_pos b]
      · rw [if_pos a]

/-- Sectors, read as a text, as the document says. -/
def runpackL (ls : List (List UInt8)) : Option (List UInt8) :=
  if (ls.take 301).all (fun s => s.length == 32) = true then
    if ls.flatten = [] ∨ 300 < ls.length then none else runpackA ls.flatten
  else none

theorem unpack_eq (ls : List (List UInt8)) : unpackL ls = runpackL ls := by
  unfold unpackL runpackL
  by_cases h : ls.all (fun s => s.length == 32) = true
  · have hall : ∀ x ∈ ls, x.length = 32 := by
      intro x hx
      rw [List.all_eq_true] at h
      simpa using h x hx
    have hl := flat32 ls hall
    have ht : (ls.take 301).all (fun s => s.length == 32) = true := by
      rw [List.all_eq_true] at h ⊢
      exact fun x hx => h x (List.mem_of_mem_take hx)
    rw [if_pos h, if_pos ht]
    by_cases h0 : ls.flatten = []
    · rw [if_pos (.inl h0)]; unfold unpackA; rw [if_pos h0]
    · by_cases h3 : 300 < ls.length
      · rw [if_pos (.inr h3)]
        unfold unpackA
        rw [if_neg h0]
        split
        · rfl
        · rename_i hx
          rw [if_pos (by omega)]
      · rw [if_neg (by intro h; exact h.elim h0 h3)]
        exact unpackA_eq _ _ h0 hl
  · rw [if_neg h]
    split
    · rename_i ht
      split
      · rfl
      · rename_i hx
        exfalso
        apply h
        rw [List.take_of_length_le (by omega)] at ht
        exact ht
    · rfl
end Go.Proofs.YtjjidjlaijpnoaaGreatDoor
