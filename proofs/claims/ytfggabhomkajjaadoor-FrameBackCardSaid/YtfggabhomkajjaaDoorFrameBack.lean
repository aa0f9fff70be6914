/- frame: the law FrameBack. -/
import Derived.Test.YtfggabhomkajjaaDoorFrameBackPlain
import Derived.Test.YtfggabhomkajjaaDoorFrameUnpacks
set_option linter.unusedVariables false
set_option linter.unusedSimpArgs false
namespace Go.Proofs.YtfggabhomkajjaaDoor
open Go.RowKit Go.Wd

theorem strs_one (p : List (List UInt8)) : ∀ u ∈ strs p, u.oneCell' = true := by
  intro u hu
  simp only [strs, List.mem_map] at hu
  obtain ⟨x, _, rfl⟩ := hu
  rfl
theorem own_empty {w : World} {B g : Nat} {e : TypeId} (h : w.heap[g]? = some (.cells #[] e (0, 0))) (hB : B ≤ g) : w.ownsRow B e 1 (.slice (some ⟨g, 0, none⟩) 0 0) 0 [] :=
  ⟨rfl, .inr ⟨g, 0, #[], rfl, hB, h, Nat.le_refl _, Nat.zero_le _, rfl, rfl⟩⟩
theorem news_rd {w w' : World} {b o n c : Nat} {p : List (List UInt8)} (h : RdStrs w (.slice (some ⟨b, o, none⟩) n c) p) (hlt : b < w.heap.size) (hb : Below w.heap.size w w') :
    ∀ j u, (strs p)[j]? = some u → w'.cell? ((⟨b, o, none⟩ : Addr).add j) = some u := by
  intro j u hu
  obtain ⟨a, c', hv, hc, h | ⟨b', o', rfl, _, hcells⟩⟩ := h
  · subst h; cases hu
  · cases hv
    simp only [strs, List.getElem?_map, Option.map_eq_some_iff] at hu
    obtain ⟨x, hx, rfl⟩ := hu
    have hadd : (⟨b, o, none⟩ : Addr).add j = ⟨b, o + j, none⟩ := by unfold Addr.add; split <;> simp_all
    rw [hadd, below_cell hb hlt]
    exact hcells j x hx

theorem heap_alloc_get (w : World) (o : Obj) (r : Nat) : (w.alloc o).heap[r]? = if r = w.heap.size then some o else w.heap[r]? := by
  show (w.heap.push o)[r]? = _
  rw [Array.getElem?_push]
theorem heap_drew_get (w : World) (r : Nat) : w.drew.heap[r]? = w.heap[r]? := rfl
theorem size_drew' (w : World) : w.drew.heap.size = w.heap.size := rfl

theorem heap_alloc_alloc (w : World) (o1 o2 : Obj) : ((w.alloc o1).alloc o2).heap[w.heap.size + 1]? = some o2 := by
  have := heap_alloc_new (w.alloc o1) o2
  rwa [World.size_alloc] at this

set_option maxRecDepth 100000 in
set_option maxHeartbeats 3200000 in
theorem frameBack_any (s : List UInt8) (w : World) (hs : s.length ≤ 9223372036854775807) :
    Calls Tryd.prog 5 #[.string (Str s)] w fun e w' => e = .returned (.bool true) ∧ Below w.heap.size w w' := by
  obtain ⟨i0, hi, hz0, hz1, hz2⟩ := info_parts infoStr
  obtain ⟨t, Ht⟩ : ∃ t, Hid (s.take 9000 = t) := ⟨_, rfl⟩
  have htl : t.length ≤ 9000 := by rw [← Ht.out]; simp; omega
  have htt : t = s.take (min s.length 9000) := by rw [← Ht.out]; exact take_min s 9000
  have he : s.take (min (s.length : Int) 9000).toNat = t := by
    rw [htt]
    congr 1
    omega
  clear htt Ht
  go_enter Tryd.func5, Tryd.ntmps5
  go_wp2_with fail
  clear he
  by_cases h8 : t.length ≤ 8192
  · have hsz := fun W => size_any t W (by omega)
    refine (pack_rd t _ h8).mono ?_
    rintro e w1 ⟨v, rfl, hown, hrd, hb1⟩
    have hpl := pack_len t
    have h32 := pack_all32 t
    rw [← hpl] at hsz
    have hn1 : 1 ≤ (packL t).length := by omega
    have hn2 : (packL t).length ≤ 300 := by omega
    have hun1 := fun W => unpack_any (packL t) v W
    have hsh := short_none t h8
    have hlo := long_none t h8
    have hback := pack_back t h8
    rw [← unpack_eq] at hback hsh
    generalize packL t = p at *
    have d8 : decide ((8192 : Int) < (t.length : Int)) = false := by simp; omega
    have HRD := Lib.hid hrd
    obtain ⟨a, c, rfl, hc, hcc⟩ := hrd
    obtain ⟨b, o, rfl, hlt, hcells⟩ := hcc.resolve_left (by intro e; subst e; simp at hn1)
    generalize hN : p.length = N at *
    have e0 : ((N : Int) == 0) = false := by rw [beq_eq_false_iff_ne]; omega
    have HP := Lib.hid (And.intro hpl hN)
    have HU1 := Lib.hid hun1
    have HC := Lib.hid hcells
    have HS := Lib.hid (And.intro hsh (And.intro hlo (And.intro hback h32)))
    clear hpl hN hcc hun1 hcells hsh hlo hback h32
    go_wp2_with fail
    refine (hsz _).mono ?_
    rintro e w2 ⟨rfl, rfl⟩
    have e1 : ((N : Int) != (N : Int)) = false := by simp
    have e2 : ((N : Int) == (N : Int)) = true := by simp
    clear hsz
    go_wp2_with fail
    go_loop [5, 49, 50, 51, 52, 53, 54, 55, 56, 57, 58, 59, 60] (fun i _ _ _ _ _ _ _ _ _ _ _ _ => ∃ k : Nat, k ≤ N ∧ i = .int .i64 k)
      (fun i _ _ _ _ _ _ _ _ _ _ _ _ => N - (intOf i).toNat)
    case atStart => exact ⟨0, Nat.zero_le _, rfl⟩
    case round =>
      obtain ⟨k, hk, rfl⟩ := hrel
      by_cases hk2 : k < N
      · obtain ⟨x, hx⟩ : ∃ x, p[k]? = some x := ⟨_, List.getElem?_eq_getElem (by have := HP.out.2; omega)⟩
        have hcell := HC.out k _ hx
        have hx32 : ((x.length : Int) != 32) = false := by rw [HS.out.2.2.2 _ (List.mem_of_getElem? hx)]; rfl
        clear hx
        go_wp2_with fail
        go_round
        case rel => exact ⟨k + 1, by omega, by go_num⟩
        case measure => simp [intOf]; omega
      · obtain rfl : k = N := by omega
        go_wp2_with fail
        have hun := HU1.out w1 HRD.out (by omega) (by have := flat32 p HS.out.2.2.2; have := HP.out.2; omega)
        rw [HS.out.2.2.1, show unp (some t) = .tuple #[.string (Str t), .int .i64 0] from rfl] at hun
        have HU := Lib.hid hun
        clear hun
        refine HU.out.mono ?_
        rintro e w3 ⟨rfl, hb3⟩
        clear HU
        have e3 : (t != t) = false := by simp
        have e4 : (t == t) = true := by simp
        go_wp2_with fail
        have hrd3 : RdStrs w3 (.slice (some ⟨b, o, none⟩) (k - 1) c) (p.take (k - 1)) := by
          have hl : (p.take (k - 1)).length = k - 1 := by rw [List.length_take]; have := HP.out.2; omega
          refine ⟨_, c, by rw [hl], by rw [hl]; omega, .inr ⟨b, o, rfl, Nat.lt_of_lt_of_le hlt hb3.size, fun j x hx => ?_⟩⟩
          have hj : j < k - 1 := by
            rcases Nat.lt_or_ge j (k - 1) with h | h
            · exact h
            · rw [List.getElem?_eq_none (by omega)] at hx; cases hx
          rw [List.getElem?_take_of_lt hj] at hx
          rw [below_cell hb3 hlt]
          exact HC.out j x hx
        have hun := unpack_any (p.take (k - 1)) _ w3 hrd3 (by rw [List.length_take]; omega) (by
          have := flat32 (p.take (k - 1)) (fun x hx => HS.out.2.2.2 x (List.mem_of_mem_take hx))
          rw [List.length_take] at this
          omega)
        rw [HS.out.1, show unp none = .tuple #[.string (Str []), .int .i64 4] from rfl] at hun
        have HU := Lib.hid hun
        clear hun
        refine HU.out.mono ?_
        rintro e w4 ⟨rfl, hb4⟩
        have hb5 := below_then (below_then hb1 hb3) hb4
        have hrd4 := (HRD.out.below hb3).below hb4
        have HRD4 := Lib.hid hrd4
        have hlt4 : b < w4.heap.size := by have := hb3.size; have := hb4.size; omega
        clear HU hrd3 hrd4 HRD hb1 hb3 hb4 hown HC
        go_wp2_with fail
        have hlp : (strs p).length = k * 1 := by rw [strs_len]; have := HP.out.2; omega
        have hst1 : ∀ u ∈ strs p, u.oneCell' = true := strs_one p
        have HLP := Lib.hid (And.intro hlp hst1)
        have hg1 : 0 + k ≤ maxLen := by unfold maxLen; omega
        have hg2 : (0 + k) * 16 ≤ 140737488355328 := by omega
        clear hlp hst1 d8 e0 e1 e2 e3 e4 hlt h8 htl hs
        obtain ⟨Z, HZ⟩ : ∃ Z : List UInt8, Hid (List.replicate 32 0 = Z) := ⟨_, rfl⟩
        have hzl : Z.length = 32 := by rw [← HZ.out]; exact List.length_replicate ..
        have hconvG : ∀ (W : World) (g : Nat), W.heap[g]? = some (.cells (byteRow Z) 5 (0, 0)) → Sem.run Tryd.prog (convert 33 9 (.slice (some ⟨g, 0, none⟩) 32 32)) W = .ok (.string (Str Z)) W := fun W g hg =>
          run_string_own (cs := byteRow Z) (t := 5) hg 33 9 5 0 32 32 Z Tryd.underlying33 Tryd.underlying5 Tryd.underlying9 hzl (fun j hj => by rw [Nat.zero_add]; exact byteRow_at hj)
        have q1 := hconvG (w4.alloc (Obj.cells (byteRow Z) 5)).drew w4.heap.size (by simp only [heap_drew_get, heap_alloc_get, World.size_alloc]; first | exact if_pos (by omega) | exact (if_neg (by omega)).trans (if_pos (by omega)) | exact (if_neg (by omega)).trans ((if_neg (by omega)).trans (if_pos (by omega))) | rfl)
        have q1' := hconvG (w4.alloc (Obj.cells (byteRow Z) 5)) w4.heap.size (by simp only [heap_drew_get, heap_alloc_get, World.size_alloc]; first | exact if_pos (by omega) | exact (if_neg (by omega)).trans (if_pos (by omega)) | exact (if_neg (by omega)).trans ((if_neg (by omega)).trans (if_pos (by omega))) | rfl)
        have q2 := hconvG ((w4.alloc (Obj.cells #[] 9)).alloc (Obj.cells (byteRow Z) 5)).drew (w4.heap.size + 1) (by simp only [heap_drew_get, heap_alloc_get, World.size_alloc]; first | exact if_pos (by omega) | exact (if_neg (by omega)).trans (if_pos (by omega)) | exact (if_neg (by omega)).trans ((if_neg (by omega)).trans (if_pos (by omega))) | rfl)
        have q2' := hconvG ((w4.alloc (Obj.cells #[] 9)).alloc (Obj.cells (byteRow Z) 5)) (w4.heap.size + 1) (by simp only [heap_drew_get, heap_alloc_get, World.size_alloc]; first | exact if_pos (by omega) | exact (if_neg (by omega)).trans (if_pos (by omega)) | exact (if_neg (by omega)).trans ((if_neg (by omega)).trans (if_pos (by omega))) | rfl)
        have q3 := hconvG ((w4.alloc (Obj.cells (byteRow Z) 5)).alloc (Obj.cells #[] 9)).drew w4.heap.size (by simp only [heap_drew_get, heap_alloc_get, World.size_alloc]; first | exact if_pos (by omega) | exact (if_neg (by omega)).trans (if_pos (by omega)) | exact (if_neg (by omega)).trans ((if_neg (by omega)).trans (if_pos (by omega))) | rfl)
        have q3' := hconvG ((w4.alloc (Obj.cells (byteRow Z) 5)).alloc (Obj.cells #[] 9)) w4.heap.size (by simp only [heap_drew_get, heap_alloc_get, World.size_alloc]; first | exact if_pos (by omega) | exact (if_neg (by omega)).trans (if_pos (by omega)) | exact (if_neg (by omega)).trans ((if_neg (by omega)).trans (if_pos (by omega))) | rfl)
        have HCG := Lib.hid hconvG
        clear hconvG
        have hmk : ∀ W : World, Sem.run Tryd.prog (Instr.makeSlice 33 (Value.int IntKind.i64 32) (Value.int IntKind.i64 32)) W = .ok (.slice (some ⟨W.heap.size, 0, none⟩) 32 32) (W.alloc (Obj.cells (byteRow Z) 5)) := by
          intro W
          have := run_make_row' (P := Tryd.prog) 33 5 (.int .u8 0) 1 Tryd.underlying33 infoU8 rfl .i64 .i64 32 (by omega) (by omega) W
          rw [made_bytes, HZ.out] at this
          exact this
        have hun8 : ∀ (W : World) (v : Value), RdStrs W v (p ++ [Z]) → Calls Tryd.prog 14 #[v] W fun e w' => e = .returned (.tuple #[.string (Str []), .int .i64 4]) ∧ Below W.heap.size W w' := by
          intro W v hv
          have hl : (p ++ [Z]).length ≤ 100000 := by rw [List.length_append]; have := HP.out.2; simp; omega
          have hf : (p ++ [Z]).flatten.length ≤ 100000000 := by
            have := flat32 (p ++ [Z]) (by
              intro x hx
              rcases List.mem_append.1 hx with h | h
              · exact HS.out.2.2.2 x h
              · rw [List.mem_singleton.1 h]; exact hzl)
            omega
          have := unpack_any (p ++ [Z]) v W hv hl hf
          rw [unpack_eq, HS.out.2.1 Z hzl] at this
          exact this
        have HU8 := Lib.hid hun8
        have hkk : k + 1 ≤ maxLen := by unfold maxLen; omega
        have hkb : (k + 1) * 16 ≤ 140737488355328 := by omega
        have hpk : (p ++ [Z]).length = k + 1 := by rw [List.length_append]; have := HP.out.2; simp; omega
        have HPK := Lib.hid hpk
        clear hun8 hpk
        go_region_law (first
            | (refine step_append_lies _ (by rfl) _ _ _ (by rfl) w4.heap.size 9 i0 _ 1 16 Tryd.underlying22 hi hz0 hz1 hz2 rfl (by omega) (.slice (some ⟨gg, 0, none⟩) k cap) k (strs p) (by rfl) (((hown5'.alloc _).alloc _))
                ⟨w5.heap.size + 1, 0, none⟩ 1 1 [.string (Str Z)] (by rfl) (by rfl) (World.news_of_block (cs := #[.string (Str Z)]) (t := 9) (fr := (0, 0)) (heap_alloc_alloc w5 _ _)) (by simp [Value.oneCell']) (by omega) (by omega) (by omega) (by have := hS5.size; first | omega | (simp only [size_drew', World.size_alloc]; omega)) _ rfl ?_
               intro gg6 cap6 w6 hown6 hgrow6 hat6 hgg6
               rw [← strs_snoc] at hown6
               have hown7 : w6.ownsRow w4.heap.size 9 1 (.slice (some ⟨gg6, 0, none⟩) (k + 1) cap6) (p ++ [Z]).length (strs (p ++ [Z])) := by rw [HPK.out]; exact hown6
               have hrd7 := RdStrs.of_owns hown7
               have hS6 : Below w4.heap.size w4 w6 := Below.grown (by repeat (first | exact hS5 | refine Below.drew ?_ | refine Below.alloc ?_ (by have := hS5.size; first | omega | (simp only [size_drew', World.size_alloc]; omega)) _)) hgrow6 (by have := hS5.size; first | omega | (simp only [size_drew', World.size_alloc]; omega)) (fun q hq => (hown5.lt q hq).1))
            | (refine step_append_lies _ (by rfl) _ _ _ (by rfl) w4.heap.size 9 i0 _ 1 16 Tryd.underlying22 hi hz0 hz1 hz2 rfl (by omega) (.slice (some ⟨gg, 0, none⟩) k cap) k (strs p) (by rfl) (hown5'.alloc _)
                ⟨w5.heap.size, 0, none⟩ 1 1 [.string (Str Z)] (by rfl) (by rfl) (World.news_of_block (cs := #[.string (Str Z)]) (t := 9) (fr := (0, 0)) (heap_alloc_new w5 _)) (by simp [Value.oneCell']) (by omega) (by omega) (by omega) (by have := hS5.size; first | omega | (simp only [size_drew', World.size_alloc]; omega)) _ rfl ?_
               intro gg6 cap6 w6 hown6 hgrow6 hat6 hgg6
               rw [← strs_snoc] at hown6
               have hown7 : w6.ownsRow w4.heap.size 9 1 (.slice (some ⟨gg6, 0, none⟩) (k + 1) cap6) (p ++ [Z]).length (strs (p ++ [Z])) := by rw [HPK.out]; exact hown6
               have hrd7 := RdStrs.of_owns hown7
               have hS6 : Below w4.heap.size w4 w6 := Below.grown (by repeat (first | exact hS5 | refine Below.drew ?_ | refine Below.alloc ?_ (by have := hS5.size; first | omega | (simp only [size_drew', World.size_alloc]; omega)) _)) hgrow6 (by have := hS5.size; first | omega | (simp only [size_drew', World.size_alloc]; omega)) (fun q hq => (hown5.lt q hq).1))
            | (refine step_append_lies _ (by rfl) _ _ _ (by rfl) w4.heap.size 9 i0 _ 1 16 Tryd.underlying22 hi hz0 hz1 hz2 rfl (by omega) (.slice (some ⟨gg, 0, none⟩) k cap) k (strs p) (by rfl) hown5'
                ⟨w4.heap.size + 1, 0, none⟩ 1 1 [.string (Str Z)] (by rfl) (by rfl) (World.news_of_block (cs := #[.string (Str Z)]) (t := 9) (fr := (0, 0)) (hE1)) (by simp [Value.oneCell']) (by omega) (by omega) (by omega) (by have := hS5.size; first | omega | (simp only [size_drew', World.size_alloc]; omega)) _ rfl ?_
               intro gg6 cap6 w6 hown6 hgrow6 hat6 hgg6
               rw [← strs_snoc] at hown6
               have hown7 : w6.ownsRow w4.heap.size 9 1 (.slice (some ⟨gg6, 0, none⟩) (k + 1) cap6) (p ++ [Z]).length (strs (p ++ [Z])) := by rw [HPK.out]; exact hown6
               have hrd7 := RdStrs.of_owns hown7
               have hS6 : Below w4.heap.size w4 w6 := Below.grown (by repeat (first | exact hS5 | refine Below.drew ?_ | refine Below.alloc ?_ (by have := hS5.size; first | omega | (simp only [size_drew', World.size_alloc]; omega)) _)) hgrow6 (by have := hS5.size; first | omega | (simp only [size_drew', World.size_alloc]; omega)) (fun q hq => (hown5.lt q hq).1))
            | (refine step_append_lies _ (by rfl) _ _ _ (by rfl) w4.heap.size 9 i0 _ 1 16 Tryd.underlying22 hi hz0 hz1 hz2 rfl (by omega) (.slice (some ⟨gg, 0, none⟩) k cap) k (strs p) (by rfl) hown5'
                ⟨w4.heap.size + 2, 0, none⟩ 1 1 [.string (Str Z)] (by rfl) (by rfl) (World.news_of_block (cs := #[.string (Str Z)]) (t := 9) (fr := (0, 0)) (hE2)) (by simp [Value.oneCell']) (by omega) (by omega) (by omega) (by have := hS5.size; first | omega | (simp only [size_drew', World.size_alloc]; omega)) _ rfl ?_
               intro gg6 cap6 w6 hown6 hgrow6 hat6 hgg6
               rw [← strs_snoc] at hown6
               have hown7 : w6.ownsRow w4.heap.size 9 1 (.slice (some ⟨gg6, 0, none⟩) (k + 1) cap6) (p ++ [Z]).length (strs (p ++ [Z])) := by rw [HPK.out]; exact hown6
               have hrd7 := RdStrs.of_owns hown7
               have hS6 : Below w4.heap.size w4 w6 := Below.grown (by repeat (first | exact hS5 | refine Below.drew ?_ | refine Below.alloc ?_ (by have := hS5.size; first | omega | (simp only [size_drew', World.size_alloc]; omega)) _)) hgrow6 (by have := hS5.size; first | omega | (simp only [size_drew', World.size_alloc]; omega)) (fun q hq => (hown5.lt q hq).1))
            | (refine step_append_lies _ (by rfl) _ _ _ (by rfl) w4.heap.size 9 i0 _ 1 16 Tryd.underlying22 hi hz0 hz1 hz2 rfl (by omega) (.slice (some ⟨gg, 0, none⟩) k cap) k (strs p) (by rfl) hown5'
                ⟨w4.heap.size + 1 + 1, 0, none⟩ 1 1 [.string (Str Z)] (by rfl) (by rfl) (World.news_of_block (cs := #[.string (Str Z)]) (t := 9) (fr := (0, 0)) (hE3)) (by simp [Value.oneCell']) (by omega) (by omega) (by omega) (by have := hS5.size; first | omega | (simp only [size_drew', World.size_alloc]; omega)) _ rfl ?_
               intro gg6 cap6 w6 hown6 hgrow6 hat6 hgg6
               rw [← strs_snoc] at hown6
               have hown7 : w6.ownsRow w4.heap.size 9 1 (.slice (some ⟨gg6, 0, none⟩) (k + 1) cap6) (p ++ [Z]).length (strs (p ++ [Z])) := by rw [HPK.out]; exact hown6
               have hrd7 := RdStrs.of_owns hown7
               have hS6 : Below w4.heap.size w4 w6 := Below.grown (by repeat (first | exact hS5 | refine Below.drew ?_ | refine Below.alloc ?_ (by have := hS5.size; first | omega | (simp only [size_drew', World.size_alloc]; omega)) _)) hgrow6 (by have := hS5.size; first | omega | (simp only [size_drew', World.size_alloc]; omega)) (fun q hq => (hown5.lt q hq).1))
            | (refine step_append_lies _ (by rfl) _ _ _ (by rfl) w4.heap.size 9 i0 _ 1 16 Tryd.underlying22 hi hz0 hz1 hz2 rfl (by omega) (.slice (some ⟨gg, 0, none⟩) (0 + k) cap) (0 + k) (strs p) (by rfl) (((hown5.alloc _).alloc _))
                ⟨w5.heap.size + 1, 0, none⟩ 1 1 [.string (Str Z)] (by rfl) (by rfl) (World.news_of_block (cs := #[.string (Str Z)]) (t := 9) (fr := (0, 0)) (heap_alloc_alloc w5 _ _)) (by simp [Value.oneCell']) (by omega) (by omega) (by omega) (by have := hS5.size; first | omega | (simp only [size_drew', World.size_alloc]; omega)) _ rfl ?_
               intro gg6 cap6 w6 hown6 hgrow6 hat6 hgg6
               rw [← strs_snoc, Nat.zero_add] at hown6
               have hown7 : w6.ownsRow w4.heap.size 9 1 (.slice (some ⟨gg6, 0, none⟩) (k + 1) cap6) (p ++ [Z]).length (strs (p ++ [Z])) := by rw [HPK.out]; exact hown6
               have hrd7 := RdStrs.of_owns hown7
               have hS6 : Below w4.heap.size w4 w6 := Below.grown (by repeat (first | exact hS5 | refine Below.drew ?_ | refine Below.alloc ?_ (by have := hS5.size; first | omega | (simp only [size_drew', World.size_alloc]; omega)) _)) hgrow6 (by have := hS5.size; first | omega | (simp only [size_drew', World.size_alloc]; omega)) (fun q hq => (hown5.lt q hq).1))
            | (refine step_append_lies _ (by rfl) _ _ _ (by rfl) w4.heap.size 9 i0 _ 1 16 Tryd.underlying22 hi hz0 hz1 hz2 rfl (by omega) (.slice (some ⟨gg, 0, none⟩) (0 + k) cap) (0 + k) (strs p) (by rfl) (hown5.alloc _)
                ⟨w5.heap.size, 0, none⟩ 1 1 [.string (Str Z)] (by rfl) (by rfl) (World.news_of_block (cs := #[.string (Str Z)]) (t := 9) (fr := (0, 0)) (heap_alloc_new w5 _)) (by simp [Value.oneCell']) (by omega) (by omega) (by omega) (by have := hS5.size; first | omega | (simp only [size_drew', World.size_alloc]; omega)) _ rfl ?_
               intro gg6 cap6 w6 hown6 hgrow6 hat6 hgg6
               rw [← strs_snoc, Nat.zero_add] at hown6
               have hown7 : w6.ownsRow w4.heap.size 9 1 (.slice (some ⟨gg6, 0, none⟩) (k + 1) cap6) (p ++ [Z]).length (strs (p ++ [Z])) := by rw [HPK.out]; exact hown6
               have hrd7 := RdStrs.of_owns hown7
               have hS6 : Below w4.heap.size w4 w6 := Below.grown (by repeat (first | exact hS5 | refine Below.drew ?_ | refine Below.alloc ?_ (by have := hS5.size; first | omega | (simp only [size_drew', World.size_alloc]; omega)) _)) hgrow6 (by have := hS5.size; first | omega | (simp only [size_drew', World.size_alloc]; omega)) (fun q hq => (hown5.lt q hq).1))
            | (refine step_append_lies _ (by rfl) _ _ _ (by rfl) w4.heap.size 9 i0 _ 1 16 Tryd.underlying22 hi hz0 hz1 hz2 rfl (by omega) (.slice (some ⟨gg, 0, none⟩) (0 + k) cap) (0 + k) (strs p) (by rfl) hown5
                ⟨w4.heap.size + 1, 0, none⟩ 1 1 [.string (Str Z)] (by rfl) (by rfl) (World.news_of_block (cs := #[.string (Str Z)]) (t := 9) (fr := (0, 0)) (hE1)) (by simp [Value.oneCell']) (by omega) (by omega) (by omega) (by have := hS5.size; first | omega | (simp only [size_drew', World.size_alloc]; omega)) _ rfl ?_
               intro gg6 cap6 w6 hown6 hgrow6 hat6 hgg6
               rw [← strs_snoc, Nat.zero_add] at hown6
               have hown7 : w6.ownsRow w4.heap.size 9 1 (.slice (some ⟨gg6, 0, none⟩) (k + 1) cap6) (p ++ [Z]).length (strs (p ++ [Z])) := by rw [HPK.out]; exact hown6
               have hrd7 := RdStrs.of_owns hown7
               have hS6 : Below w4.heap.size w4 w6 := Below.grown (by repeat (first | exact hS5 | refine Below.drew ?_ | refine Below.alloc ?_ (by have := hS5.size; first | omega | (simp only [size_drew', World.size_alloc]; omega)) _)) hgrow6 (by have := hS5.size; first | omega | (simp only [size_drew', World.size_alloc]; omega)) (fun q hq => (hown5.lt q hq).1))
            | (refine step_append_lies _ (by rfl) _ _ _ (by rfl) w4.heap.size 9 i0 _ 1 16 Tryd.underlying22 hi hz0 hz1 hz2 rfl (by omega) (.slice (some ⟨gg, 0, none⟩) (0 + k) cap) (0 + k) (strs p) (by rfl) hown5
                ⟨w4.heap.size + 2, 0, none⟩ 1 1 [.string (Str Z)] (by rfl) (by rfl) (World.news_of_block (cs := #[.string (Str Z)]) (t := 9) (fr := (0, 0)) (hE2)) (by simp [Value.oneCell']) (by omega) (by omega) (by omega) (by have := hS5.size; first | omega | (simp only [size_drew', World.size_alloc]; omega)) _ rfl ?_
               intro gg6 cap6 w6 hown6 hgrow6 hat6 hgg6
               rw [← strs_snoc, Nat.zero_add] at hown6
               have hown7 : w6.ownsRow w4.heap.size 9 1 (.slice (some ⟨gg6, 0, none⟩) (k + 1) cap6) (p ++ [Z]).length (strs (p ++ [Z])) := by rw [HPK.out]; exact hown6
               have hrd7 := RdStrs.of_owns hown7
               have hS6 : Below w4.heap.size w4 w6 := Below.grown (by repeat (first | exact hS5 | refine Below.drew ?_ | refine Below.alloc ?_ (by have := hS5.size; first | omega | (simp only [size_drew', World.size_alloc]; omega)) _)) hgrow6 (by have := hS5.size; first | omega | (simp only [size_drew', World.size_alloc]; omega)) (fun q hq => (hown5.lt q hq).1))
            | (refine step_append_lies _ (by rfl) _ _ _ (by rfl) w4.heap.size 9 i0 _ 1 16 Tryd.underlying22 hi hz0 hz1 hz2 rfl (by omega) (.slice (some ⟨gg, 0, none⟩) (0 + k) cap) (0 + k) (strs p) (by rfl) hown5
                ⟨w4.heap.size + 1 + 1, 0, none⟩ 1 1 [.string (Str Z)] (by rfl) (by rfl) (World.news_of_block (cs := #[.string (Str Z)]) (t := 9) (fr := (0, 0)) (hE3)) (by simp [Value.oneCell']) (by omega) (by omega) (by omega) (by have := hS5.size; first | omega | (simp only [size_drew', World.size_alloc]; omega)) _ rfl ?_
               intro gg6 cap6 w6 hown6 hgrow6 hat6 hgg6
               rw [← strs_snoc, Nat.zero_add] at hown6
               have hown7 : w6.ownsRow w4.heap.size 9 1 (.slice (some ⟨gg6, 0, none⟩) (k + 1) cap6) (p ++ [Z]).length (strs (p ++ [Z])) := by rw [HPK.out]; exact hown6
               have hrd7 := RdStrs.of_owns hown7
               have hS6 : Below w4.heap.size w4 w6 := Below.grown (by repeat (first | exact hS5 | refine Below.drew ?_ | refine Below.alloc ?_ (by have := hS5.size; first | omega | (simp only [size_drew', World.size_alloc]; omega)) _)) hgrow6 (by have := hS5.size; first | omega | (simp only [size_drew', World.size_alloc]; omega)) (fun q hq => (hown5.lt q hq).1))
            | (refine step_append_lies _ (by rfl) _ _ _ (by rfl) w4.heap.size 9 i0 _ 1 16 Tryd.underlying22 hi hz0 hz1 hz2 rfl (by omega) _ 0 [] (by rfl) (own_empty (by simp only [heap_drew_get, heap_alloc_get, World.size_alloc]; first | exact if_pos (by omega) | exact (if_neg (by omega)).trans (if_pos (by omega)) | exact (if_neg (by omega)).trans ((if_neg (by omega)).trans (if_pos (by omega))) | rfl) (by first | exact Nat.le_refl _ | omega | (simp only [size_drew', World.size_alloc]; omega)))
                ⟨b, o, none⟩ k c (strs p) (by rfl) HLP.out.1 (news_rd HRD4.out hlt4 (by repeat (first | exact Below.refl _ _ | refine Below.drew ?_ | refine Below.alloc ?_ (by first | omega | (simp only [size_drew', World.size_alloc]; omega)) _))) HLP.out.2 (by omega) hg1 hg2 (by simp [size_drew']; try omega) _ rfl ?_
               intro gg cap w5 hown5 hgrow5 hat5 hgg5
               rw [List.nil_append] at hown5
               have hown5' := hown5
               rw [Nat.zero_add] at hown5'
               have hS5 : Below w4.heap.size w4 w5 := Below.grown (by repeat (first | exact Below.refl _ _ | refine Below.drew ?_ | refine Below.alloc ?_ (by first | omega | (simp only [size_drew', World.size_alloc]; omega)) _)) hgrow5 (by simp [size_drew']; try omega) (by intro q hq; simp [Value.ownBlock] at hq; omega)
               try (have hq0 := HCG.out w5 w4.heap.size ((hgrow5.block _ (by first | omega | (simp only [size_drew', World.size_alloc]; omega)) (by simp only [Value.ownBlock, ne_eq, Option.some.injEq]; omega)).trans (by simp only [heap_drew_get, heap_alloc_get, World.size_alloc]; first | exact if_pos (by omega) | exact (if_neg (by omega)).trans (if_pos (by omega)) | exact (if_neg (by omega)).trans ((if_neg (by omega)).trans (if_pos (by omega))) | rfl)))
               try (have hq0' := HCG.out w5.drew w4.heap.size ((hgrow5.block _ (by first | omega | (simp only [size_drew', World.size_alloc]; omega)) (by simp only [Value.ownBlock, ne_eq, Option.some.injEq]; omega)).trans (by simp only [heap_drew_get, heap_alloc_get, World.size_alloc]; first | exact if_pos (by omega) | exact (if_neg (by omega)).trans (if_pos (by omega)) | exact (if_neg (by omega)).trans ((if_neg (by omega)).trans (if_pos (by omega))) | rfl)))
               try (have hq1 := HCG.out w5 (w4.heap.size + 1) ((hgrow5.block _ (by first | omega | (simp only [size_drew', World.size_alloc]; omega)) (by simp only [Value.ownBlock, ne_eq, Option.some.injEq]; omega)).trans (by simp only [heap_drew_get, heap_alloc_get, World.size_alloc]; first | exact if_pos (by omega) | exact (if_neg (by omega)).trans (if_pos (by omega)) | exact (if_neg (by omega)).trans ((if_neg (by omega)).trans (if_pos (by omega))) | rfl)))
               try (have hq1' := HCG.out w5.drew (w4.heap.size + 1) ((hgrow5.block _ (by first | omega | (simp only [size_drew', World.size_alloc]; omega)) (by simp only [Value.ownBlock, ne_eq, Option.some.injEq]; omega)).trans (by simp only [heap_drew_get, heap_alloc_get, World.size_alloc]; first | exact if_pos (by omega) | exact (if_neg (by omega)).trans (if_pos (by omega)) | exact (if_neg (by omega)).trans ((if_neg (by omega)).trans (if_pos (by omega))) | rfl)))
               try (have hE1 : w5.heap[w4.heap.size + 1]? = some (.cells #[.string (Str Z)] 9 (0, 0)) := ((hgrow5.block _ (by first | omega | (simp only [size_drew', World.size_alloc]; omega)) (by simp only [Value.ownBlock, ne_eq, Option.some.injEq]; omega)).trans (by simp only [heap_drew_get, heap_alloc_get, World.size_alloc]; first | exact if_pos (by omega) | exact (if_neg (by omega)).trans (if_pos (by omega)) | exact (if_neg (by omega)).trans ((if_neg (by omega)).trans (if_pos (by omega))) | rfl)))
               try (have hE2 : w5.heap[w4.heap.size + 2]? = some (.cells #[.string (Str Z)] 9 (0, 0)) := ((hgrow5.block _ (by first | omega | (simp only [size_drew', World.size_alloc]; omega)) (by simp only [Value.ownBlock, ne_eq, Option.some.injEq]; omega)).trans (by simp only [heap_drew_get, heap_alloc_get, World.size_alloc]; first | exact if_pos (by omega) | exact (if_neg (by omega)).trans (if_pos (by omega)) | exact (if_neg (by omega)).trans ((if_neg (by omega)).trans (if_pos (by omega))) | rfl)))
               try (have hE3 : w5.heap[w4.heap.size + 1 + 1]? = some (.cells #[.string (Str Z)] 9 (0, 0)) := ((hgrow5.block _ (by first | omega | (simp only [size_drew', World.size_alloc]; omega)) (by simp only [Value.ownBlock, ne_eq, Option.some.injEq]; omega)).trans (by simp only [heap_drew_get, heap_alloc_get, World.size_alloc]; first | exact if_pos (by omega) | exact (if_neg (by omega)).trans (if_pos (by omega)) | exact (if_neg (by omega)).trans ((if_neg (by omega)).trans (if_pos (by omega))) | rfl)))
               try (have hq5 := HCG.out (w5.alloc (Obj.cells (byteRow Z) 5)) w5.heap.size (heap_alloc_new _ _))
               try (have hq6 := HCG.out (w5.alloc (Obj.cells (byteRow Z) 5)).drew w5.heap.size (heap_alloc_new _ _)))
            | (go_simp
               refine (HU8.out _ _ hrd7).mono ?_
               rintro e w7 ⟨rfl, hb7⟩
               have hS7 : Below w4.heap.size w4 w7 := hS6.trans (hb7.mono hS6.size))
            | fail)
        all_goals
          clear HLP HRD4 HCG HU8 HPK q1 q1' q2 q2' q3 q3' hmk
          go_wp2_with fail
          refine (works_any _).mono ?_
          rintro e w8 ⟨rfl, hb8⟩
          go_wp2_with fail
          go_ret
          exact ⟨rfl, below_then (below_then hb5 hS7) hb8⟩
  · have d8 : decide ((8192 : Int) < (t.length : Int)) = true := by simp; omega
    refine (pack_long t _ (by omega) (by omega)).mono ?_
    rintro e w1 ⟨rfl, rfl⟩
    go_wp2_with fail
    refine (works_any _).mono ?_
    rintro e w5 ⟨rfl, hb5⟩
    go_wp2_with fail
    go_ret
    exact ⟨rfl, hb5⟩
end Go.Proofs.YtfggabhomkajjaaDoor
