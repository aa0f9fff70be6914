/- frame: what the laws share: rows read again, and works. -/
import Derived.Test.YtfggabhomkajjaaDoorFrameRef4
namespace Go.Proofs.YtfggabhomkajjaaDoor
open Go.RowKit Go.Wd

/-! ### Plain -/
theorem chunks_all32 (k : Nat) : ∀ (l : List UInt8), l.length ≤ k → ∀ x ∈ chunks l, x.length = 32 := by
  induction k with
  | zero => intro l h; obtain rfl : l = [] := List.eq_nil_of_length_eq_zero (by omega); intro x hx; simp [chunks_nil] at hx
  | succ k ih =>
    intro l h x hx
    by_cases h0 : l = []
    · subst h0; simp [chunks_nil] at hx
    · have hpos : 0 < l.length := List.length_pos_iff.2 h0
      rw [chunks_cons h0] at hx
      rcases List.mem_cons.1 hx with rfl | hx
      · exact pad32_len l
      · exact ih _ (by simp; omega) x hx

/-- A text's sectors. -/
def packL (t : List UInt8) : List (List UInt8) := chunks (wholeL t)
theorem pack_all32 (t : List UInt8) : ∀ x ∈ packL t, x.length = 32 := chunks_all32 _ _ (Nat.le_refl _)
theorem pack_flat (t : List UInt8) : (packL t).flatten = padL t := by
  unfold packL
  rw [← chunks_padL]
  exact chunks_flat _ _ (Nat.le_refl _) (by rw [pad_len]; omega)
theorem pack_len (t : List UInt8) : (packL t).length = (t.length + 37) / 32 := by
  have h := flat32 (packL t) (pack_all32 t)
  rw [pack_flat, pad_len] at h
  omega
theorem pad_num (t : List UInt8) (h : t.length < 65536) : num2 (padL t) = t.length := by
  simp [num2, padL, wholeL, lenB]
  omega
theorem pad_text (t : List UInt8) : ((padL t).drop 6).take t.length = t := by
  simp [padL, wholeL, lenB, ones32]
theorem pack_back (t : List UInt8) (h : t.length ≤ 8192) : runpackL (packL t) = some t := by
  have hl := pack_len t
  have hall : ((packL t).take 301).all (fun s => s.length == 32) = true := by
    rw [List.all_eq_true]
    intro x hx
    simpa using pack_all32 t x (List.mem_of_mem_take hx)
  unfold runpackL
  rw [if_pos hall, pack_flat, if_neg, runpackA, pad_num t (by omega), if_neg, pad_text, if_neg]
  · simp
  · rw [pad_len]; omega
  · intro h'
    rcases h' with h' | h'
    · have := congrArg List.length h'
      rw [pad_len] at this
      simp at this
      omega
    · omega

/-! ### Worlds -/
theorem RdStrs.of_owns {w : World} {B : Nat} {v : Value} {ls : List (List UInt8)} (h : w.ownsRow B 9 1 v ls.length (strs ls)) : RdStrs w v ls := by
  rcases h.2 with ⟨rfl, h0⟩ | ⟨g, cap, cur, rfl, hb, hg, hn, hcap, hsz, hcur⟩
  · have : ls = [] := List.eq_nil_of_length_eq_zero h0
    subst this
    exact ⟨none, 0, rfl, Nat.le_refl _, .inl rfl⟩
  · have hlt : g < w.heap.size := by
      rcases Nat.lt_or_ge g w.heap.size with h | h
      · exact h
      · rw [Array.getElem?_eq_none h] at hg; cases hg
    refine ⟨_, cap, rfl, hn, .inr ⟨g, 0, rfl, hlt, fun j x hx => ?_⟩⟩
    have hj : j < ls.length := by
      rcases Nat.lt_or_ge j ls.length with h | h
      · exact h
      · rw [List.getElem?_eq_none h] at hx; cases hx
    have h2 : (strs ls)[j]? = some (.string (Str x)) := by simp [strs, hx]
    rw [← hcur, Nat.mul_one, List.getElem?_take_of_lt hj, Array.getElem?_toList] at h2
    simp only [World.cell?, hg, Nat.zero_add]
    exact h2

theorem RdStrs.below {w w' : World} {v : Value} {ls : List (List UInt8)} (h : RdStrs w v ls) (hb : Below w.heap.size w w') : RdStrs w' v ls := by
  obtain ⟨a, c, rfl, hc, h⟩ := h
  refine ⟨a, c, rfl, hc, h.imp id ?_⟩
  rintro ⟨b, o, rfl, hlt, hcells⟩
  refine ⟨b, o, rfl, Nat.lt_of_lt_of_le hlt hb.size, fun j x hx => ?_⟩
  have := hcells j x hx
  simpa only [World.cell?, hb.block b hlt] using this
theorem RdStrs.drewN {w : World} {v : Value} {ls : List (List UInt8)} (h : RdStrs w v ls) (q : Nat) : RdStrs (w.drewN q) v ls := h
theorem RdStrs.form {w : World} {v : Value} {ls : List (List UInt8)} (h : RdStrs w v ls) : ∃ a c, v = .slice a ls.length c := by
  obtain ⟨a, c, rfl, _⟩ := h
  exact ⟨a, c, rfl⟩

theorem below_cell {B : Nat} {w w' : World} (hb : Below B w w') {b o : Nat} (h : b < B) : w'.cell? ⟨b, o, none⟩ = w.cell? ⟨b, o, none⟩ := by
  simp only [World.cell?, hb.block b h]

/-- Pack, read again. -/
theorem pack_rd (l : List UInt8) (w : World) (hs : l.length ≤ 8192) :
    Calls Tryd.prog 8 #[.string (Str l)] w fun e w' => ∃ v, e = .returned (.tuple #[v, .int .i64 0]) ∧
      w'.ownsRow w.heap.size 9 1 v (packL l).length (strs (packL l)) ∧ RdStrs w' v (packL l) ∧ Below w.heap.size w w' :=
  (pack_any l w hs).mono fun _ _ ⟨v, h1, h2, h3⟩ => ⟨v, h1, h2, .of_owns h2, h3⟩

def T36 : List UInt8 := [97, 98, 99, 100, 101, 102, 103, 104, 105, 106, 107, 108, 109, 110, 111, 112, 113, 114, 115, 116, 117, 118, 119, 120, 121, 122, 48, 49, 50, 51, 52, 53, 54, 55, 56, 57]

theorem works_any (w : World) : Calls Tryd.prog 13 #[] w fun e w' => e = .returned (.bool true) ∧ Below w.heap.size w w' := by
  have hln : T36.length = 36 := rfl
  have hlen : (packL T36).length = 2 := by rw [pack_len]; rfl
  have hun : unpackL (packL T36) = some T36 := by rw [unpack_eq]; exact pack_back T36 (by decide)
  have hfl : (packL T36).flatten.length ≤ 100000000 := by rw [pack_flat, pad_len, hln]; omega
  have h32 := pack_all32 T36
  go_enter Tryd.func13, Tryd.ntmps13
  go_wp2_with fail
  refine (pack_rd T36 _ (by decide)).mono ?_
  rintro e w1 ⟨v, rfl, hown, hrd, hb1⟩
  have hunp := unpack_any (packL T36) v w1 hrd (by omega) hfl
  rw [hun, show unp (some T36) = .tuple #[.string (Str T36), .int .i64 0] from rfl] at hunp
  obtain ⟨a, c, rfl, hc, hcc⟩ := hrd
  obtain ⟨b, o, rfl, hlt, hcells⟩ := hcc.resolve_left (by intro e; rw [e] at hlen; cases hlen)
  have hcell := hcells 1 _ (List.getElem?_eq_getElem (by omega))
  have hx32 := h32 (packL T36)[1] (List.getElem_mem _)
  generalize (packL T36)[1] = x at *
  rw [hlen] at *
  generalize packL T36 = p at *
  clear hcells hcc hown h32 hun hfl
  have HU := Lib.hid hunp
  clear hunp
  have hsz := fun W => size_any T36 W (by decide)
  rw [hln] at hsz
  have HS := Lib.hid hsz
  clear hsz
  have hstr : (Str [97, 98, 99, 100, 101, 102, 103, 104, 105, 106, 107, 108, 109, 110, 111, 112, 113, 114, 115, 116, 117, 118, 119, 120, 121, 122, 48, 49, 50, 51, 52, 53, 54, 55, 56, 57]) = Str T36 := rfl
  generalize T36 = t at *
  go_wp2_with fail
  refine HU.out.mono ?_
  rintro e w2 ⟨rfl, hb2⟩
  rw [← below_cell hb2 hlt] at hcell
  have hb3 := below_then hb1 hb2
  clear hb1 hb2 hlt HU
  go_wp2_with fail
  refine (HS.out _).mono ?_
  rintro e w4 ⟨rfl, rfl⟩
  go_wp2_with fail
  go_ret
  exact ⟨rfl, hb3⟩
end Go.Proofs.YtfggabhomkajjaaDoor
