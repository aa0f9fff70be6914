/- THE LAW JournalNothing returns true: a Commit that is refused changes no sector at all. No condition. -/
import Derived.Test.YtmegpbadkojhbaaDoorLC
import Derived.Test.YtmegpbadkojhbaaDoorEvFrame
import Derived.Test.YtmegpbadkojhbaaDoorEvMaps
import Derived.Test.YtmegpbadkojhbaaDoorCards
import Derived.Test.YtmegpbadkojhbaaDoorTie
import Derived.ProofKit
import Derived.OpenShut
import Derived.ShutString
import Derived.Carry
import Derived.LaidMore
import Derived.Lay
import Derived.SevenTiedAt
import Derived.Stop.Joined
namespace Go.Proofs.YtmegpbadkojhbaaDoor.journalNothing
open Go.ChangeShapes Go.WideShapes Go.ChangeAt Go.RowKit Go.Ev

theorem own : ownKnob Tryd.prog.godebug = none := by kernel_rfl
theorem laidOut : laidOutB Tryd.prog = true := by kernel_rfl
noncomputable def tab : Nat → Option FnE := fun f => Bool.rec (motive := fun _ => Option FnE) (Bool.rec (motive := fun _ => Option FnE) (Bool.rec (motive := fun _ => Option FnE) ((Tryd.prog.funcs[f]?).bind (compFn Tryd.prog f)) (some (.nat nClone)) (Nat.beq f 34)) (some (.nat (nPack packL))) (Nat.beq f 47)) (some (.nat (nUnpack unpackL))) (Nat.beq f 42)
theorem tabOK : TabOK Tryd.prog tab := TabOK.nat natUnpack_ok (TabOK.nat natPack_ok (TabOK.nat cloneOK.nat (TabOK.base (by kernel_rfl))))
theorem tab_base (f : Nat) (h1 : Nat.beq f 42 = false) (h2 : Nat.beq f 47 = false) (h3 : Nat.beq f 34 = false) : tab f = (Tryd.prog.funcs[f]?).bind (compFn Tryd.prog f) := by
  unfold tab
  rw [h1, h2, h3]
theorem others : ∀ f ∈ codeFns, (Nat.beq f 42 = false ∧ Nat.beq f 47 = false) ∧ Nat.beq f 34 = false := by unfold codeFns; decide
theorem tj : TJ tab packL unpackL where
  T := TCode.over (fun f hf => by
    obtain ⟨⟨h1, h2⟩, h3⟩ := others f hf
    exact tab_base f h1 h2 h3) codes
  hc := by
    unfold tab
    rw [show Nat.beq 34 42 = false from rfl, show Nat.beq 34 47 = false from rfl, show Nat.beq 34 34 = true from rfl]
  F := frameOK
  hp := by
    unfold tab
    rw [show Nat.beq 47 42 = false from rfl, show Nat.beq 47 47 = true from rfl]
  hu := by
    unfold tab
    rw [show Nat.beq 42 42 = true from rfl]

theorem walk {w : World} {v0 v1 v2 : Value} {r : Nat} {pss : List (List Pt)} {ps : List Pt} (h0 : (vOf w.heap.size v0).one = true) (h1 : (vOf w.heap.size v1).one = true) (hva : PssAt (adopt w) (vOf w.heap.size v0) pss) (hnb : pss.length < 9223372036854775808) (hv1 : PsAt (adopt w) (vOf w.heap.size v1) ps) (hn1 : ps.length < 9223372036854775808)
    (h2 : vOf w.heap.size v2 = .int 4 r) (hr : r < 256) : Calls Tryd.prog 3 #[v0, v1, v2] w fun e w' => e = .returned (.bool true) ∧ Below w.heap.size w w' := by
  obtain ⟨H', hcall, hF⟩ := journalNothing_call (cp := compRC Tryd.prog) (fuel := 100000) tj (adopt_wf w) hva hnb hv1 hn1 hr (by decide)
  refine called (by kernel_rfl) tabOK (fuel := 100000) (depth := 0 + 10) (args := [vOf w.heap.size v0, vOf w.heap.size v1, .int 4 r]) ?_ (fun k => hcall 0 k) (hF.lo _ (by rw [adopt_wlo]; exact Nat.le_refl _) (by rw [adopt_n]; exact Nat.le_refl _))
  simp only [VRs]
  exact ⟨_, _, rfl, vOf_ok w v0 h0, _, _, rfl, vOf_ok w v1 h1, _, _, rfl, by rw [← h2]; exact vOf_ok w v2 (by rw [h2]; rfl), rfl⟩

set_option maxRecDepth 100000 in
theorem lifted (os : Os) (started : os.Started) (H : Type) (enc : TypeId × Value → H) :
    ReturnsInHanded {} Tryd.checked os 3 .any (fun w args => (Rows.journalNothingSpec.pre enc Tryd.prog Tryd.f3 Rows.journalNothingRow.domain false w args ∧ laidMetH Tryd.prog Rows.journalNothingRow.laid w) ∧ sizedMet enc Tryd.prog Tryd.f3 (OpenSpec.ofChange Rows.journalNothingSpec) false w args)
      (Rows.journalNothingSpec.post enc Tryd.prog Tryd.f3 false true false false) := by
  refine returnsInHanded_of_change_and (C := Tryd.checked) (X := fun w _ => laidMetH Tryd.prog Rows.journalNothingRow.laid w) (fun _ _ _ hh h => h.of_heap hh) own started (by kernel_rfl) Tryd.func3
    (ChangeSpec.witness_shaped (enc := enc) (C := Tryd.checked) (os := os) (X := fun w _ => laidMetH Tryd.prog Rows.journalNothingRow.laid w) false (World.laidAll Tryd.prog os Rows.journalNothingRow.laid) #[.slice none 0 0, .slice none 0 0, .int .u8 0] 8 (World.laidAll_os _ _ _)
      (World.shaped_of_ZipB (by kernel_rfl) (by kernel_rfl)) (by kernel_rfl) (by kernel_rfl) (by kernel_rfl)
      (by rw [MakeChecks.laidMetH_plain _ _ _ (by kernel_rfl)]; exact laidMet_laidAll _ (by kernel_rfl) (by kernel_rfl))) ?_
  intro W base args ds gs before hval0 hW hc _ hL _
  have hval : ∀ (j : Nat) t v, Tryd.f3.params[j]? = some t → args[j]? = some v → Value.okWide Tryd.prog W .any base t v := hval0
  have hW' := hW
  obtain ⟨p, q, hA0, hV, rfl, hnf, _⟩ := hW
  have hA : DataW.TrodAll enc Tryd.prog W 0 (fun _ => true) true Tryd.f3.params.toList args.toList ds p := hA0
  rw [Tryd.params3] at hA hval
  obtain ⟨v0, v1, v2, d0, d1, d2, p0, p1, p2, rfl, rfl, rfl, k0, k1, k2⟩ := trodAll_three hA
  obtain ⟨rfl, rfl⟩ := trodVars_none hV
  obtain ⟨a0, len0, cap0, rfl⟩ := okWide_slice Tryd.underlying22 (hval 0 22 v0 rfl rfl)
  obtain ⟨a1, len1, cap1, rfl⟩ := okWide_slice Tryd.underlying23 (hval 1 23 v1 rfl rfl)
  obtain ⟨n2, rfl, rfl, rfl, w2⟩ := open_int Tryd.underlying5 (hval 2 5 v2 rfl rfl) k2
  have lt0 : ∀ x ∈ p0, x.block < W.heap.size := by obtain ⟨m, hm⟩ := k0; exact DataW.trod_lt m _ _ _ hm
  have lt1 : ∀ x ∈ p1, x.block < W.heap.size := by obtain ⟨m, hm⟩ := k1; exact DataW.trod_lt m _ _ _ hm
  have nf0 : W.noneFrozen p0 := fun b off h => hnf b off (by simp [h])
  have nf1 : W.noneFrozen p1 := fun b off h => hnf b off (by simp [h])
  obtain ⟨one0, pss, hpss, hpn⟩ : (vOf W.heap.size (.slice a0 len0 cap0)).one = true ∧ ∃ pss, PssAt (adopt W) (vOf W.heap.size (.slice a0 len0 cap0)) pss ∧ pss.length < 9223372036854775808 := by
    obtain ⟨m, hm⟩ := k0
    exact pss_seen Tryd.underlying22 (by kernel_rfl) Tryd.underlying23 Tryd.underlying65 (by kernel_rfl) rfl rfl rfl (by kernel_rfl) (by kernel_rfl) (by kernel_rfl) (by kernel_rfl) (by kernel_rfl) (by kernel_rfl) hm nf0
  obtain ⟨one1, ps, hps, hpn1⟩ : (vOf W.heap.size (.slice a1 len1 cap1)).one = true ∧ ∃ ps, PsAt (adopt W) (vOf W.heap.size (.slice a1 len1 cap1)) ps ∧ ps.length < 9223372036854775808 := by
    obtain ⟨m, hm⟩ := k1
    exact ps_seen Tryd.underlying23 Tryd.underlying65 (by kernel_rfl) rfl rfl rfl (by kernel_rfl) (by kernel_rfl) (by kernel_rfl) (by kernel_rfl) (by kernel_rfl) (by kernel_rfl) hm nf1
  have hr : (n2 % (2 ^ IntKind.u8.bits : Nat)).toNat < 256 := by
    have h1 : (0 : Int) ≤ n2 % (2 ^ IntKind.u8.bits : Nat) := Int.emod_nonneg _ (by simp [IntKind.bits])
    have h2 : n2 % (2 ^ IntKind.u8.bits : Nat) < (2 ^ IntKind.u8.bits : Nat) := Int.emod_lt_of_pos _ (by simp [IntKind.bits])
    simp only [IntKind.bits] at h1 h2 ⊢
    omega
  simp only [List.append_nil] at hW'
  refine (walk one0 one1 hpss hpn hps hpn1 (vOf_int w2) hr).mono fun e W' ⟨he, bel⟩ => ?_
  subst he
  exact ⟨_, rfl, _, _, _, [], _, [], hW', trodAll_mk1 (shut_bool Tryd.underlying4 _),
    trodAll_mk3 (Below.trod laidOut (by kernel_rfl) (of_decide_eq_true (by kernel_rfl)) k0 bel lt0) (Below.trod laidOut (by kernel_rfl) (of_decide_eq_true (by kernel_rfl)) k1 bel lt1) (shut_int Tryd.underlying5 w2), rfl, bel.frame _, fun h => by cases h⟩

theorem holds : Rows.JournalNothingSaid :=
  OpenClaim.holds_of_wide 3 Tryd.f3 rfl rfl rfl rfl rfl rfl rfl ⟨rfl, rfl, rfl, rfl, rfl⟩ rfl rfl rfl rfl rfl (by kernel_rfl) Tryd.func3 (by kernel_rfl)
    (of_decide_eq_true (by kernel_rfl)) (by unfold Func.isWrapper; first | (rw [if_pos (by decide +kernel)]; kernel_rfl) | (rw [if_neg (by decide +kernel)]; exact ⟨rfl, rfl⟩))
    (fun os started H enc _ => lifted os started H enc)

theorem plain (f : FuncId) (fn : Func) (hf : Tryd.pinned.checked.prog.funcNamed "stemma/stemmalaw05.JournalNothing" = some f) (hfn : Tryd.pinned.checked.prog.funcs[f]? = some fn) :
    true = Tryd.pinned.checked.prog.looks [] ∧ ∀ (j : Nat) t, fn.params[j]? = some t → Tryd.pinned.checked.prog.wantsStandIn t = false := by
  obtain rfl : f = 3 := Option.some.inj ((show Tryd.prog.funcNamed "stemma/stemmalaw05.JournalNothing" = some 3 by kernel_rfl).symm.trans hf) |>.symm
  obtain rfl : fn = Tryd.f3 := (Option.some.inj (Tryd.func3.symm.trans hfn)).symm
  refine ⟨by kernel_rfl, fun j t ht => ?_⟩
  rw [Tryd.params3] at ht
  have hm : t ∈ [22, 23, 5] := by simpa using Array.mem_of_getElem? ht
  have hall : ([22, 23, 5].all fun u => !Tryd.prog.wantsStandIn u) = true := by kernel_rfl
  exact (show Tryd.prog.wantsStandIn t = false by simpa using List.all_eq_true.1 hall t hm)

/-- ████ THE CARD ████ -/
theorem proved : Rows.JournalNothingCardSaid :=
  Claim7.holds_tied_plain_at .later [] _ _ _ _ holds (fun _ h => by cases h) (by kernel_rfl) (fun _ h => by cases h) journalNothing_row_tie rfl ⟨rfl, rfl⟩ (by kernel_rfl) rfl plain (by kernel_rfl)
#print axioms proved
end Go.Proofs.YtmegpbadkojhbaaDoor.journalNothing
