/- frame: contracts of the document's Pack, Texts. -/
import Derived.Test.YtfggabhomkajjaaDoorFrameRef2
namespace Go.Proofs.YtfggabhomkajjaaDoor
open Go.RowKit Go.Wd

theorem rpack_long (l : List UInt8) (w : World) (hs : 8192 < l.length) (hs2 : l.length ≤ 100000000000) :
    Calls Tryd.prog 9 #[.string (Str l)] w fun e w' => e = .returned (.tuple #[.slice none 0 0, .int .i64 3]) ∧ w = w' := by
  go_enter Tryd.func9, Tryd.ntmps9
  go_wp2_with fail
  go_ret2
  exact ⟨rfl, rfl⟩

theorem rpack_any (l : List UInt8) (w : World) (hs : l.length ≤ 8192) :
    Calls Tryd.prog 9 #[.string (Str l)] w fun e w' => ∃ v, e = .returned (.tuple #[v, .int .i64 0]) ∧
      w'.ownsRow w.heap.size 9 1 v (chunks (wholeL l)).length (strs (chunks (wholeL l))) ∧ Below w.heap.size w w' := by
  obtain ⟨i0, hi, hz0, hz1, hz2⟩ := info_parts infoStr
  have hwl := pad_len l
  have hck := chunks_padL l
  go_enter Tryd.func9, Tryd.ntmps9
  go_wp2_with fail
  refine (rwhole_any l _ (by omega)).mono ?_
  rintro e w1 ⟨rfl, hb1⟩
  generalize hall : padL l = all at *
  have Hall := Lib.hid hall
  have Hck := Lib.hid hck
  clear hall hck
  go_wp2_with fail
  obtain ⟨N, hN, HN⟩ : ∃ N, N ≤ 300 ∧ all.length = 32 * N := ⟨_, by omega, hwl⟩
  clear hwl
  go_loopw [5, 6, 12, 13, 14, 15, 16, 17, 18, 19, 20, 21, 22, 23, 24, 25] (fun v i _ _ _ _ _ _ _ _ _ _ _ _ _ _ wr => ∃ k : Nat, k ≤ N ∧ i = .int .i64 ((32 * k : Nat) : Int) ∧ ∃ done : List (List UInt8), done.length = k ∧ Hid (chunks all = done ++ chunks (all.drop (32 * k))) ∧
      wr.ownsRow w.heap.size 9 1 v done.length (strs done) ∧ Below w.heap.size w wr)
    (fun _ i _ _ _ _ _ _ _ _ _ _ _ _ _ _ _ => 32 * N - (intOf i).toNat)
  case atStart => exact ⟨0, by omega, rfl, [], rfl, rfl, World.ownsRow_nil _ _ _ _, hb1⟩
  case round =>
    obtain ⟨k, hk, rfl, done, hdk, Hch, hown, hB⟩ := hrel
    by_cases hlt : k < N
    · have hBs := hB.size
      have i1 : ((32 * k : Nat) : Int) < (all.length : Int) := by omega
      have i2 : ((32 * k : Nat) : Int) + 32 ≤ (all.length : Int) := by omega
      have i3 : IntKind.i64.wrap (((32 * k : Nat) : Int) + 32) = ((32 * k + 32 : Nat) : Int) := by rw [IntWalk.i64_in _ (by omega)]; omega
      have i4 : 32 * k ≤ 32 * k + 32 := by omega
      have i5 : 32 * k + 32 ≤ all.length := by omega
      generalize hm : 32 * k = m at *
      go_wp2_with (at_builtin; refine wpList_append_own _ rfl _ _ 22 rfl w.heap.size 9 i0 (.string (Str [])) 1 16 Tryd.underlying22 hi hz0 hz1 hz2 rfl (by decide) _ _ _ rfl (hown.alloc _) ⟨wr.heap.size, 0, none⟩ 1 1 [.string (Str ((all.drop m).take 32))] rfl rfl ?c1 ?c2 ?c3 ?c4 ?c5 ?_)
      case c1 => exact cell_one_new wr (.string (Str ((all.drop m).take 32))) 9
      case c2 => simp [Value.oneCell']
      case c3 => unfold maxLen; omega
      case c4 => omega
      case c5 => simp; omega
      intro v' w2 hown' hgrow _
      rw [← strs_snoc] at hown'
      have hB2 : Below w.heap.size w w2 := (hB.alloc hB.size _).grown hgrow (by simp; omega) (fun k hk => (hown.lt k hk).1)
      have hne : all.drop m ≠ [] := by intro h; have := congrArg List.length h; simp at this; omega
      have hp : pad32 (all.drop m) = (all.drop m).take 32 := by
        unfold pad32
        have h : ((all.drop m).take 32).length = 32 := by simp; omega
        simp
        omega
      have Hch' : Hid (chunks all = (done ++ [(all.drop m).take 32]) ++ chunks (all.drop (m + 32))) := by
        show _ = _
        rw [Hch.out, chunks_cons hne, hp, List.drop_drop]
        simp
      clear hown hB hgrow Hch hp hne
      go_wp2_with fail
      go_roundw
      case rel =>
        have h1 : 32 * (k + 1) = m + 32 := by omega
        exact ⟨k + 1, by omega, by rw [h1]; rfl, done ++ [(all.drop m).take 32], by simp [hdk], by rw [h1]; exact Hch', by simpa [hdk] using hown', hB2⟩
      case measure => simp [intOf]; omega
    · obtain rfl : k = N := by omega
      have i1 : decide (((32 * k : Nat) : Int) < (all.length : Int)) = false := by simp; omega
      go_wp2_with fail
      go_ret2
      have he : done = chunks (wholeL l) := by
        have := (Hch.out).symm.trans Hck.out
        rw [List.drop_eq_nil_of_le (by omega), chunks_nil, List.append_nil] at this
        exact this
      rw [← he]
      exact ⟨_, rfl, hown, hB⟩

theorem take_eq_of {α} {x y : List α} {k : Nat} {a : α} (h : x.take k = y.take k) (h1 : x[k]? = some a) (h2 : y[k]? = some a) : x.take (k + 1) = y.take (k + 1) := by
  rw [List.take_add_one, List.take_add_one, h, h1, h2]

theorem texts_any (a b : Value) (x y : List (List UInt8)) (w : World) (ha : RdStrs w a x) (hb : RdStrs w b y) (hx : x.length ≤ 100000) (hy : y.length ≤ 100000) :
    Calls Tryd.prog 10 #[a, b] w fun e w' => e = .returned (.bool (decide (x = y))) ∧ ∃ q, w' = w.drewN q := by
  obtain ⟨pa, ca, rfl, hca, ra⟩ := ha
  obtain ⟨pb, cb, rfl, hcb, rb⟩ := hb
  have RA := Lib.hid ra
  have RB := Lib.hid rb
  clear ra rb
  go_enter Tryd.func10, Tryd.ntmps10
  by_cases hl : x.length = y.length
  · have h1 : ((x.length : Int) != (y.length : Int)) = false := by simp; omega
    have H1 := Lib.hid hl
    go_wp2_with fail
    generalize hcnt : y.length = cnt at *
    go_loopw [5, 11, 12, 13, 14, 15, 16, 17, 18, 19, 20, 21, 22, 23, 24, 25] (fun i _ _ _ _ _ _ _ _ _ _ _ _ _ _ _ wr => ∃ k : Nat, k ≤ cnt ∧ i = .int .i64 k ∧ Hid (x.take k = y.take k) ∧ ∃ q, wr = w.drewN q)
      (fun i _ _ _ _ _ _ _ _ _ _ _ _ _ _ _ _ => cnt - (intOf i).toNat)
    case atStart => exact ⟨0, Nat.zero_le _, rfl, rfl, 0, rfl⟩
    case round =>
      obtain ⟨k, hk, rfl, HE, q, rfl⟩ := hrel
      by_cases hlt : k < cnt
      · obtain ⟨b1, o1, rfl, hb1, hc1⟩ := (RA.out).resolve_left (by intro e; rw [e] at hl; simp at hl; omega)
        obtain ⟨b2, o2, rfl, hb2, hc2⟩ := (RB.out).resolve_left (by intro e; rw [e] at hcnt; simp at hcnt; omega)
        have hx1 : x[k]? = some x[k] := List.getElem?_eq_getElem _
        have hy1 : y[k]? = some y[k] := List.getElem?_eq_getElem _
        have hcx := hc1 k _ hx1
        have hcy := hc2 k _ hy1
        have HX := Lib.hid hx1
        have HY := Lib.hid hy1
        clear hx1 hy1 hc1 hc2
        generalize x[k] = p at *
        generalize y[k] = r at *
        by_cases hpr : p = r
        · subst hpr
          have e1 : (p != p) = false := by simp
          go_wp2_with fail
          go_quiet (fail)
          go_wp2_with fail
          go_roundw
          case rel => exact ⟨k + 1, by omega, by go_num, take_eq_of HE.out HX.out HY.out, q + nq, by first | rfl | exact World.drewN_drewN _ _ _⟩
          case measure => simp [intOf]; omega
        · have e1 : (p != r) = true := by simpa using hpr
          have e2 : (p == r) = false := by simpa using hpr
          have HP := Lib.hid hpr
          clear hpr
          go_wp2_with fail
          go_quiet (fail)
          go_wp2_with fail
          go_ret
          have hne : decide (x = y) = false := by
            rw [decide_eq_false_iff_not]
            intro h
            subst h
            exact HP.out (Option.some.inj ((HX.out).symm.trans HY.out))
          exact ⟨congrArg (fun s => Ending.returned (Value.bool s)) hne.symm, q + nq, World.drewN_drewN _ _ _⟩
      · obtain rfl : k = cnt := by omega
        go_wp2_with fail
        go_ret
        have he : decide (x = y) = true := by
          rw [decide_eq_true_iff]
          have := HE.out
          rw [List.take_of_length_le (by omega), List.take_of_length_le (by omega)] at this
          exact this
        exact ⟨congrArg (fun s => Ending.returned (Value.bool s)) he.symm, _, rfl⟩
  · have h1 : ((x.length : Int) != (y.length : Int)) = true := by simp; omega
    go_wp2_with fail
    go_ret
    have : decide (x = y) = false := by simp; intro h; subst h; exact hl rfl
    exact ⟨congrArg (fun s => Ending.returned (Value.bool s)) this.symm, 0, rfl⟩
end Go.Proofs.YtfggabhomkajjaaDoor
