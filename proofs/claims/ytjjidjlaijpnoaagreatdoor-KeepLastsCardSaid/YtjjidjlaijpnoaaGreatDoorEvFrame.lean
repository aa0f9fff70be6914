/- frame.Pack, frame.Unpack, taken by what they are known to do. -/
import Derived.Test.YtjjidjlaijpnoaaGreatDoorLB
import Derived.Test.YtjjidjlaijpnoaaGreatDoorLg
import Derived.Test.YtjjidjlaijpnoaaGreatDoorFramePk
set_option linter.unusedVariables false
namespace Go.Proofs.YtjjidjlaijpnoaaGreatDoor
open Go.RowKit Go.Wd Go.Ev
theorem vr_text {m : M} (x : List UInt8) : VR m (tv x) (.string (Str x)) := by
  unfold tv
  simp only [VR]
  rw [sbytes_enc]
  exact ⟨rfl, enc_lt x⟩
theorem frameOK : FrameOK packL unpackL where
  len t _ := pack_all32 t
  num t h := by rw [pack_len]; omega
  pos t _ h := by
    have := pack_len t
    rw [h] at this
    simp only [List.length_nil] at this
    omega
  back t h := by rw [unpack_eq]; exact pack_back t h
theorem natPack_ok : NatOK Tryz.prog 60 (nPack packL) := fun args H k h => by
  match args, h with
  | [.str l n], h =>
    have h' : (if l ≤ 8192 ∧ n < 256 ^ l then hNew H (.cells ((packL (sbytes l n)).map tv)) fun b H' => k (.tup [.slice b 0 (packL (sbytes l n)).length 0 1, .int 3 0]) H' else no 0) = 1 := h
    by_cases hc : l ≤ 8192 ∧ n < 256 ^ l
    · rw [if_pos hc] at h'
      obtain ⟨H', h3, hN⟩ := hNew_ok h'
      refine ⟨_, H', fun base w0 rho w cargs hp hv => ?_, h3⟩
      obtain ⟨rfl, hn⟩ := vrs_one_str hv
      refine ⟨run_callFunc Tryz.func60 rfl rfl _ _, ?_⟩
      refine CallsIn.mono (callsIn_wide.2 (pack_rd' (sbytes l n) w (by rw [sbytes_length]; exact hc.1))) ?_
      rintro e w' ⟨v, rfl, hown, hb⟩
      rcases hown with ⟨hl1, ⟨_, h0⟩ | ⟨g, cap, cur, rfl, hbg, hg, hnc, hcm, hsz, htk⟩⟩
      · have := pack_len (sbytes l n)
        omega
      have hcell : ∀ (i : Nat) (x : List UInt8), (packL (sbytes l n))[i]? = some x → cur[i]? = some (.string (Str x)) := fun i x hx => by
        have h1 : (cur.toList.take ((packL (sbytes l n)).length * 1))[i]? = some (.string (Str x)) := by
          rw [htk]
          simp only [strs, List.getElem?_map, hx, Option.map_some]
        rw [List.getElem?_take] at h1
        split at h1
        · simpa using h1
        · cases h1
      have hR : RowR (mu rho H w) ((packL (sbytes l n)).map tv) cur (0, 0) := by
        refine ⟨fun i u hi => ?_, fun i _ => by simp⟩
        rw [List.getElem?_map] at hi
        obtain ⟨x, hx, rfl⟩ := Option.map_eq_some_iff.1 hi
        exact ⟨rfl, _, hcell i x hx, vr_text x⟩
      obtain ⟨p1, p2⟩ := hp.late hb hN.n hN.wlo hN.get hN.oth trivial hbg hg ⟨cur, _, (0, 0), rfl, hR, by simp⟩
      refine ⟨_, rfl, _, ?_, p1, p2⟩
      simp only [VR]
      refine ⟨_, rfl, ?_⟩
      simp only [VRs]
      refine ⟨_, _, rfl, ?_, _, _, rfl, ?_, rfl⟩
      · simp only [VR]
        refine ⟨g, cap, 0, none, rfl, ⟨by rw [hN.n]; omega, fun _ => by simp⟩, hnc, ⟨fun q hq => absurd hq (by omega), fun _ => Or.inr ⟨⟨cur, _, _, hg, by omega⟩, by unfold maxLen at hcm; omega⟩⟩, Or.inl ⟨rfl, rfl⟩⟩
      · simp only [VR]
        exact ⟨by show Value.int .i64 0 = Value.int .i64 (toI .i64 (0 : Nat)); rw [toI_64' (by omega)]; rfl, by show 0 < kMod _; exact Nat.pow_pos (by decide), by omega⟩
    · rw [if_neg hc] at h'
      exact (no_ne h').elim
theorem natUnpack_ok : NatOK Tryz.prog 46 (nUnpack unpackL) := fun args H k h => by
  classical
  match args, h with
  | [.slice b 0 n cp sz], h =>
    have h' : (if h : ∃ ls : List (List UInt8), H.get b = .cells (ls.map tv) ∧ ls.length = n ∧ n ≤ 1000 ∧ (∀ x ∈ ls, x.length ≤ 1000) ∧ (unpackL ls).isSome = true then k (.tup [tv ((unpackL h.choose).getD []), .int 3 0]) H else no 0) = 1 := by
      refine Eq.trans ?_ h
      show _ = nUnpack unpackL [.slice b 0 n cp sz] H k
      unfold nUnpack
      rfl
    by_cases hc : ∃ ls : List (List UInt8), H.get b = .cells (ls.map tv) ∧ ls.length = n ∧ n ≤ 1000 ∧ (∀ x ∈ ls, x.length ≤ 1000) ∧ (unpackL ls).isSome = true
    · rw [dif_pos hc] at h'
      obtain ⟨hb, hn, hn1, hx1, hsm⟩ := hc.choose_spec
      generalize hc.choose = ls at h' hb hn hx1 hsm
      obtain ⟨t, ht⟩ := Option.isSome_iff_exists.1 hsm
      rw [ht, Option.getD_some] at h'
      refine ⟨_, H, CallF.of_calls Tryz.func46 rfl rfl fun base w0 rho w cargs hp hv => ?_, h'⟩
      simp only [VRs] at hv
      obtain ⟨c1, r1, e1, v1, rfl⟩ := hv
      simp only [VR] at v1
      obtain ⟨c, cap, o', sp, rfl, hm, hle, hcp, ho⟩ := v1
      have hca : cargs = #[.slice (some ⟨c, o', sp⟩) n cap] := by apply Array.ext'; exact e1
      subst hca
      have hrow : rowOf (H.get b) = some (ls.map tv) := by rw [hb]; rfl
      have hr := hp.rho_of hm hrow
      have hrd : RdStrs w (.slice (some ⟨c, o', sp⟩) n cap) ls := by
        refine ⟨_, cap, by rw [hn], by omega, ?_⟩
        by_cases h0 : ls = []
        · exact Or.inl h0
        · right
          have hl0 : 0 < ls.length := List.length_pos_iff.2 h0
          obtain ⟨rfl, rfl⟩ : o' = 0 ∧ sp = none := by
            rcases ho with h | h
            · exact h
            · omega
          refine ⟨c, 0, rfl, (hp.dom _ _ hr).2.2.1, fun j x hx => ?_⟩
          obtain ⟨cv, g1, g2, _⟩ := hp.cell (i := j) (v := tv x) hr hrow (by rw [List.getElem?_map, hx]; rfl)
          rw [Nat.zero_add, g1]
          unfold tv at g2
          simp only [VR] at g2
          rw [g2.1, sbytes_enc]
          rfl
      have hfl : ∀ (l : List (List UInt8)), (∀ x ∈ l, x.length ≤ 1000) → l.flatten.length ≤ 1000 * l.length := by
        intro l
        induction l with
        | nil => intro _; simp
        | cons x l ih =>
          intro h
          have h1 := ih fun y hy => h y (List.mem_cons_of_mem _ hy)
          have h2 := h x (List.mem_cons_self ..)
          simp only [List.flatten_cons, List.length_append, List.length_cons]
          omega
      have hf := hfl ls hx1
      have hcall := unpack_any ls _ w hrd (by omega) (by omega)
      rw [ht] at hcall
      refine ⟨.tuple #[.string (Str t), .int .i64 0], ?_, hcall⟩
      simp only [VR]
      refine ⟨_, rfl, ?_⟩
      simp only [VRs]
      exact ⟨_, _, rfl, vr_text t, _, _, rfl, by simp only [VR]; exact ⟨by show Value.int .i64 0 = Value.int .i64 (toI .i64 (0 : Nat)); rw [toI_64' (by omega)]; rfl, by show 0 < kMod _; exact Nat.pow_pos (by decide), by omega⟩, rfl⟩
    · rw [dif_neg hc] at h'
      exact (no_ne h').elim
end Go.Proofs.YtjjidjlaijpnoaaGreatDoor
