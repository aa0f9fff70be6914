/- frame: the law FrameSpoilt. -/
import Derived.Test.YtfggabhomkajjaaDoorFrameSpoiltPlain
import Derived.Test.YtfggabhomkajjaaDoorFrameUnpacks
set_option linter.unusedVariables false
set_option linter.unusedSimpArgs false
namespace Go.Proofs.YtfggabhomkajjaaDoor
open Go.RowKit Go.Wd

theorem spoilt_nums (m N : Nat) (hn1 : 1 ≤ N) (hn2 : N ≤ 40) : ∃ k q r : Nat, q < N ∧ r < 32 ∧ k = 32 * q + r ∧ 2 ≤ k ∧ wrap64 (2 + (m : Int) % ((N : Int) * 32 - 2)) = (k : Int) ∧ wrap64 ((k : Int).tdiv 32) = (q : Int) ∧ wrap64 ((k : Int) / 32) = (q : Int) ∧
    (0 : Int) ≤ (q : Int) ∧ (q : Int) < (N : Int) ∧ (0 : Int) ≤ (r : Int) ∧ (r : Int) < 32 ∧ (k : Int).tmod 32 = (r : Int) ∧ (k : Int) % 32 = (r : Int) ∧ k < N * 32 := by
  have hk0 : m % (N * 32 - 2) < N * 32 - 2 := Nat.mod_lt _ (by omega)
  have e : (m : Int) % ((N : Int) * 32 - 2) = ((m % (N * 32 - 2) : Nat) : Int) := by
    rw [Int.natCast_emod]
    congr 1
    omega
  rw [e]
  clear e
  generalize m % (N * 32 - 2) = j at hk0 ⊢
  have e2 : ((2 + j : Nat) : Int).tdiv 32 = (((2 + j) / 32 : Nat) : Int) := by
    rw [Int.tdiv_eq_ediv_of_nonneg (by omega)]
    omega
  have e3 : ((2 + j : Nat) : Int).tmod 32 = (((2 + j) % 32 : Nat) : Int) := by
    rw [Int.tmod_eq_emod_of_nonneg (by omega)]
    omega
  have f1 : (2 + j) / 32 < N := by omega
  have f2 : (2 + j) % 32 < 32 := by omega
  have f3 : 2 + j = 32 * ((2 + j) / 32) + (2 + j) % 32 := by omega
  have f4 : (0 : Int) ≤ (((2 + j) / 32 : Nat) : Int) := by omega
  have f5 : (((2 + j) / 32 : Nat) : Int) < (N : Int) := by omega
  have f6 : (0 : Int) ≤ (((2 + j) % 32 : Nat) : Int) := by omega
  have f7 : (((2 + j) % 32 : Nat) : Int) < 32 := by omega
  have f8 : ((2 + j : Nat) : Int) % 32 = (((2 + j) % 32 : Nat) : Int) := by omega
  have f9 : 2 + j < N * 32 := by omega
  have f10 : ((2 + j : Nat) : Int) / 32 = (((2 + j) / 32 : Nat) : Int) := by omega
  refine ⟨2 + j, (2 + j) / 32, (2 + j) % 32, f1, f2, f3, by omega, ?_, ?_, ?_, f4, f5, f6, f7, e3, f8, f9⟩
  · unfold wrap64; omega
  · rw [e2]; unfold wrap64; omega
  · rw [f10]; unfold wrap64; omega

set_option maxRecDepth 100000 in
set_option maxHeartbeats 3200000 in
theorem frameSpoilt_any (s : List UInt8) (m : Nat) (hm : m < 65536) (d : UInt8) (w : World) (hs : s.length ≤ 9223372036854775807) :
    Calls Tryd.prog 6 #[.string (Str s), .int .u16 (m : Int), .int .u8 (d.toNat : Int)] w fun e w' => e = .returned (.bool true) ∧ Below w.heap.size w w' := by
  obtain ⟨i0, hi, hz0, hz1, hz2⟩ := info_parts infoStr
  obtain ⟨t, Ht⟩ : ∃ t, Hid (s.take 1000 = t) := ⟨_, rfl⟩
  have htl : t.length ≤ 1000 := by rw [← Ht.out]; simp; omega
  have htt : t = s.take (min s.length 1000) := by rw [← Ht.out]; exact take_min s 1000
  have he : s.take (min (s.length : Int) 1000).toNat = t := by
    rw [htt]
    congr 1
    omega
  clear htt Ht
  go_enter Tryd.func6, Tryd.ntmps6
  go_wp2_with fail
  clear he
  refine (pack_rd t _ (by omega)).mono ?_
  rintro e w1 ⟨v, rfl, hown, hrd, hb1⟩
  have hpl := pack_len t
  have h32 := pack_all32 t
  have hsp := spoilt_none t (by omega)
  simp only [← unpack_eq] at hsp
  have hun1 := fun (p' : List (List UInt8)) (v : Value) W => unpack_any p' v W
  have hn1 : 1 ≤ (packL t).length := by omega
  have hn2 : (packL t).length ≤ 40 := by omega
  generalize packL t = p at *
  have HRD := Lib.hid hrd
  obtain ⟨a, c, rfl, hc, hcc⟩ := hrd
  obtain ⟨b, o, rfl, hlt, hcells⟩ := hcc.resolve_left (by intro e; subst e; simp at hn1)
  generalize hN : p.length = N at *
  have e0 : ((N : Int) == 0) = false := by rw [beq_eq_false_iff_ne]; omega
  have HP := Lib.hid (And.intro hpl hN)
  have HU1 := Lib.hid hun1
  have HC := Lib.hid hcells
  have HS := Lib.hid (And.intro hsp h32)
  have HO : Hid (w.heap.size ≤ b ∧ ∃ cur, w1.heap[b]? = some (.cells cur 9 (0, 0))) := by
    rcases hown.2 with ⟨h, _⟩ | ⟨g, cap', cur, he, h1, h2, _⟩
    · cases h
    · cases he; exact ⟨h1, cur, h2⟩
  obtain ⟨k, q, r, hqN, hr32, hkk, hk2, kE, qE, qE', q1, q2, r1, r2, rE, rE', hkN⟩ := spoilt_nums m N hn1 hn2
  obtain ⟨x, hx⟩ : ∃ x, p[q]? = some x := ⟨_, List.getElem?_eq_getElem (Nat.lt_of_lt_of_eq hqN hN.symm)⟩
  have hcell := hcells q x hx
  have hxl := h32 x (List.mem_of_getElem? hx)
  have HK := Lib.hid (And.intro hk2 (And.intro hkk hx))
  have HR := Lib.hid (And.intro r1 (And.intro r2 (And.intro rE (And.intro rE' hr32))))
  clear hpl hN hcc hun1 hcells hsp h32 hown hkk hk2 hx hkN r1 r2 rE rE' hr32
  go_wp2_with fail
  rw [run_bytes_of_string w1 9 33 5 (Str x) Tryd.underlying9 Tryd.underlying33 Tryd.underlying5]
  simp only [Result.andThen]
  rw [Oper.upon_value]
  have hx2 : (Str x).size = 32 := by rw [Str_size]; exact hxl
  have hB : ∀ cap j (hj : j < x.length), (bytesRow (Str x) cap)[j]? = some (.int .u8 (x[j].toNat : Int)) := by
    intro cap j hj
    rw [bytesRow_at (Str x) cap j (by show j < (Str x).size; omega)]
    simp [Str]
  rw [hx2]
  generalize grownCap w1 32 0 5 = cap
  obtain ⟨B, HBe⟩ : ∃ B, Hid (bytesRow (Str x) cap = B) := ⟨_, rfl⟩
  have hBj := hB cap
  rw [HBe.out]
  rw [HBe.out] at hBj
  have hBs : B.size = 32 + (cap - 32) := by rw [← HBe.out]; simp [bytesRow]; have : (Str x).data.size = 32 := hx2; omega
  obtain ⟨w2, hw2⟩ : ∃ w2, w2 = w1.drew.alloc (.cells B 5 (B.size, B.size + 1)) := ⟨_, rfl⟩
  have h2n : w2.heap[w1.heap.size]? = some (.cells B 5 (B.size, B.size + 1)) := by rw [hw2]; exact heap_alloc_new w1.drew _
  have hb2 : Below w1.heap.size w1 w2 := by rw [hw2]; exact ((Below.refl _ _).drew).alloc (Nat.le_refl _) _
  have hs2 : w2.heap.size = w1.heap.size + 1 := by rw [hw2]; simp
  rw [← hw2]
  clear hw2 hB
  have hr' := HR.out.2.2.2.2
  obtain ⟨u, hu⟩ : ∃ u, x[r]? = some u := ⟨_, List.getElem?_eq_getElem (by rw [hxl]; exact hr')⟩
  have hul : u = x[r]'(by rw [hxl]; exact hr') := by rw [List.getElem?_eq_getElem (by rw [hxl]; exact hr')] at hu; exact (Option.some.inj hu).symm
  have hBr : B[r]? = some (.int .u8 (u.toNat : Int)) := by rw [hul]; exact hBj r (by rw [hxl]; exact hr')
  have c2 : w2.cell? ⟨w1.heap.size, r, none⟩ = some (.int .u8 (u.toNat : Int)) := by simp [World.cell?, h2n, hBr]
  have r1 := HR.out.1
  have r2 := HR.out.2.1
  have rE := HR.out.2.2.1
  have rE' := HR.out.2.2.2.1
  have HX := Lib.hid (And.intro hxl (And.intro hu hBj))
  have HB2 := Lib.hid (And.intro hBr hBs)
  clear hxl hu hul hBj hBr hBs hx2 hr'
  by_cases hud : u = d
  · subst hud
    have eD : ((u.toNat : Int) == (u.toNat : Int)) = true := by simp
    have eD' : decide ((u.toNat : Int) = (u.toNat : Int)) = true := by simp
    go_wp2_with fail
    refine (works_any _).mono ?_
    rintro e w5 ⟨rfl, hb5⟩
    go_wp2_with fail
    go_ret
    exact ⟨rfl, below_then (below_then hb1 hb2) hb5⟩
  · have hne : (u.toNat : Int) ≠ (d.toNat : Int) := fun e => hud (UInt8.toNat_inj.1 (by omega))
    have eD : ((u.toNat : Int) == (d.toNat : Int)) = false := by rw [beq_eq_false_iff_ne]; exact hne
    have eD' : decide ((u.toNat : Int) = (d.toNat : Int)) = false := by simpa using hne
    have z2 : w2.frozen? ⟨w1.heap.size, r, none⟩ = false := by
      have h1 := HB2.out.2
      have h2 := HR.out.2.2.2.2
      simp [World.frozen?, h2n]
      omega
    go_wp2_with fail
    have hl : (x.set r d).length = 32 := by rw [List.length_set]; exact HX.out.1
    have hcv := run_convert_bytes_back (P := Tryd.prog) (w2.setCell ⟨w1.heap.size, r, none⟩ (.int .u8 (d.toNat : Int))) 33 9 5 ⟨w1.heap.size, 0, none⟩ cap (x.set r d) Tryd.underlying33 Tryd.underlying5 Tryd.underlying9 (fun j hj => by
      rw [add_at, Nat.zero_add]
      by_cases hjr : j = r
      · subst hjr
        rw [World.cell?_setCell_same _ _ _ c2, List.getElem_set_self]
      · rw [World.cell?_setCell_other _ _ _ _ (by intro e; cases e; exact hjr rfl), List.getElem_set_ne (Ne.symm hjr)]
        have hj' : j < x.length := by rwa [List.length_set] at hj
        simp [World.cell?, h2n, HX.out.2.2 j hj'])
    rw [hl] at hcv
    rw [hcv]
    obtain ⟨w3, hw3⟩ : ∃ w3, w3 = w2.setCell ⟨w1.heap.size, r, none⟩ (.int .u8 (d.toNat : Int)) := ⟨_, rfl⟩
    have hs3 : w3.heap.size = w1.heap.size + 1 := by rw [hw3, World.size_setCell, hs2]
    have hcb : ∀ j : Nat, w3.cell? ⟨b, o + j, none⟩ = w1.cell? ⟨b, o + j, none⟩ := fun j => by
      rw [hw3, World.cell?_setCell_other _ _ _ _ (by intro e; cases e; omega), below_cell hb2 hlt]
    have hc3 : w3.cell? ⟨b, o + q, none⟩ = some (.string (Str x)) := by rw [hcb]; exact hcell
    have hb3 : Below w1.heap.size w1 w3 := by rw [hw3]; exact hb2.setCell (p := ⟨w1.heap.size, r, none⟩) (Nat.le_refl _) _
    have hz3 : w3.frozen? ⟨b, o + q, none⟩ = false := by
      obtain ⟨cur, hcur⟩ := HO.out.2
      rw [hw3, World.frozen?_setCell]
      simp [World.frozen?, hb2.block b hlt, hcur]
    rw [← hw3]
    clear hw3 hcv c2 z2 h2n
    simp only [Result.andThen]
    rw [Oper.upon_value]
    go_wp2_with fail
    have hpl : (p.set q (x.set r d)).length = N := by rw [List.length_set]; exact HP.out.2
    have hpx := HK.out.2.2
    have hall : ∀ y ∈ p.set q (x.set r d), y.length = 32 := fun y hy => by
      rcases List.mem_or_eq_of_mem_set hy with h | rfl
      · exact HS.out.2 y h
      · exact hl
    have hrd4 : RdStrs (w3.setCell ⟨b, o + q, none⟩ (.string (Str (x.set r d)))) (.slice (some ⟨b, o, none⟩) N c) (p.set q (x.set r d)) := by
      refine ⟨_, c, by rw [hpl], by rw [hpl]; omega, .inr ⟨b, o, rfl, by rw [World.size_setCell]; omega, fun j y hy => ?_⟩⟩
      by_cases hj : j = q
      · subst hj
        rw [List.getElem?_set_self (by rw [HP.out.2]; exact hqN)] at hy
        obtain rfl := Option.some.inj hy
        exact World.cell?_setCell_same _ _ _ hc3
      · rw [List.getElem?_set_ne (Ne.symm hj)] at hy
        rw [World.cell?_setCell_other _ _ _ _ (by intro e; have e1 : o + q = o + j := congrArg Addr.off e; exact hj (Nat.add_left_cancel e1).symm), hcb]
        exact HC.out j y hy
    have hun := HU1.out (p.set q (x.set r d)) _ _ hrd4 (by rw [hpl]; omega) (by rw [flat32 _ hall, hpl]; omega)
    rw [HS.out.1 k q r x d HK.out.1 HK.out.2.1 HR.out.2.2.2.2 hpx (by rw [HX.out.2.1]; intro e; exact hud (Option.some.inj e)), show unp none = .tuple #[.string (Str []), .int .i64 4] from rfl] at hun
    refine hun.mono ?_
    rintro e w5 ⟨rfl, hb5⟩
    have hb6 : Below w.heap.size w w5 := below_then ((below_then hb1 hb3).setCell (p := ⟨b, o + q, none⟩) HO.out.1 (.string (Str (x.set r d)))) hb5
    clear hun hrd4 hall hpx hpl hc3 hcb hb3 hz3
    go_wp2_with fail
    refine (works_any _).mono ?_
    rintro e w6 ⟨rfl, hb7⟩
    go_wp2_with fail
    go_ret
    exact ⟨rfl, below_then hb6 hb7⟩
end Go.Proofs.YtfggabhomkajjaaDoor
