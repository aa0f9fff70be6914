/- THE LAW JournalKnown returns true: the chapter's examples, the limits. No condition. -/
import Derived.Test.YtmegpbadkojhbaaDoorEvCrc
import Derived.Test.YtmegpbadkojhbaaDoorEvJoin
import Derived.Test.YtmegpbadkojhbaaDoorEvMaps
import Derived.Test.YtmegpbadkojhbaaDoorCards
import Derived.Test.YtmegpbadkojhbaaDoorTie
import Derived.ProofKit
import Derived.OpenShut
import Derived.ShutString
import Derived.LaidMore
import Derived.Lay
import Derived.SevenTiedAt
import Derived.Stop.Joined
namespace Go.Proofs.YtmegpbadkojhbaaDoor.journalKnown
open Go.ChangeShapes Go.WideShapes Go.ChangeAt Go.RowKit Go.Ev

theorem own : ownKnob Tryd.prog.godebug = none := by kernel_rfl
noncomputable def tab : Nat → Option FnE := fun f => Bool.rec (motive := fun _ => Option FnE) (Bool.rec (motive := fun _ => Option FnE) (Bool.rec (motive := fun _ => Option FnE) (Bool.rec (motive := fun _ => Option FnE) ((Tryd.prog.funcs[f]?).bind (compFn Tryd.prog f)) (some (.nat nCrc1)) (Nat.beq f 84)) (some (.nat nJoin2)) (Nat.beq f 67)) (some (.nat nClone)) (Nat.beq f 34)) (some (.nat nCopyM)) (Nat.beq f 40)
theorem tabOK : TabOK Tryd.prog tab := TabOK.nat copyMOK.nat (TabOK.nat cloneOK.nat (TabOK.nat joinOK.nat (TabOK.nat natCrc_ok (TabOK.base (by kernel_rfl)))))
set_option maxRecDepth 100000 in
theorem run : @Eq Nat (evP (compRC Tryd.prog) tab 100000 100 (.func (2 * 6) []) [] H0 isTrue) (nat_lit 1) := by kernel_rfl

set_option maxRecDepth 100000 in
theorem walk (w : World) : Calls Tryd.prog 6 #[] w fun e w' => e = .returned (.bool true) ∧ Below w.heap.size w w' :=
  known (by kernel_rfl) tabOK Tryd.func6 rfl (by kernel_rfl) run w

set_option maxRecDepth 100000 in
theorem lifted (os : Os) (started : os.Started) (H : Type) (enc : TypeId × Value → H) :
    ReturnsInHanded {} Tryd.checked os 6 .any (fun w args => (Rows.journalKnownSpec.pre enc Tryd.prog Tryd.f6 Rows.journalKnownRow.domain false w args ∧ laidMetH Tryd.prog Rows.journalKnownRow.laid w) ∧ sizedMet enc Tryd.prog Tryd.f6 (OpenSpec.ofChange Rows.journalKnownSpec) false w args)
      (Rows.journalKnownSpec.post enc Tryd.prog Tryd.f6 false true false false) := by
  refine returnsInHanded_of_change_and (C := Tryd.checked) (X := fun w _ => laidMetH Tryd.prog Rows.journalKnownRow.laid w) (fun _ _ _ hh h => h.of_heap hh) own started (by kernel_rfl) Tryd.func6
    (ChangeSpec.witness_shaped (enc := enc) (C := Tryd.checked) (os := os) (X := fun w _ => laidMetH Tryd.prog Rows.journalKnownRow.laid w) false (World.laidAll Tryd.prog os Rows.journalKnownRow.laid) #[] 8 (World.laidAll_os _ _ _)
      (World.shaped_of_ZipB (by kernel_rfl) (by kernel_rfl)) (by kernel_rfl) (by kernel_rfl) (by kernel_rfl)
      (by rw [MakeChecks.laidMetH_plain _ _ _ (by kernel_rfl)]; exact laidMet_laidAll _ (by kernel_rfl) (by kernel_rfl))) ?_
  intro W base args ds gs before hval0 hW hc _ hL _
  have hW' := hW
  obtain ⟨p, q, hA0, hV, rfl, _, _⟩ := hW
  have hA : DataW.TrodAll enc Tryd.prog W 0 (fun _ => true) true Tryd.f6.params.toList args.toList ds p := hA0
  rw [Tryd.params6] at hA
  obtain ⟨rfl, rfl, rfl⟩ := trodAll_none hA
  obtain ⟨rfl, rfl⟩ := trodVars_none hV
  clear hA0 hval0
  simp only [List.append_nil] at hW'
  refine (walk W).mono fun e W' ⟨he, bel⟩ => ?_
  subst he
  exact ⟨_, rfl, _, _, _, [], [], [], hW', trodAll_mk1 (shut_bool Tryd.underlying4 _), trodAll_mk0, rfl, bel.frame _, fun h => by cases h⟩

theorem holds : Rows.JournalKnownSaid :=
  OpenClaim.holds_of_wide 6 Tryd.f6 rfl rfl rfl rfl rfl rfl rfl ⟨rfl, rfl, rfl, rfl, rfl⟩ rfl rfl rfl rfl rfl (by kernel_rfl) Tryd.func6 (by kernel_rfl)
    (of_decide_eq_true (by kernel_rfl)) (by unfold Func.isWrapper; first | (rw [if_pos (by decide +kernel)]; kernel_rfl) | (rw [if_neg (by decide +kernel)]; exact ⟨rfl, rfl⟩))
    (fun os started H enc _ => lifted os started H enc)

theorem plain (f : FuncId) (fn : Func) (hf : Tryd.pinned.checked.prog.funcNamed "stemma/stemmalaw05.JournalKnown" = some f) (hfn : Tryd.pinned.checked.prog.funcs[f]? = some fn) :
    true = Tryd.pinned.checked.prog.looks [] ∧ ∀ (j : Nat) t, fn.params[j]? = some t → Tryd.pinned.checked.prog.wantsStandIn t = false := by
  obtain rfl : f = 6 := Option.some.inj ((show Tryd.prog.funcNamed "stemma/stemmalaw05.JournalKnown" = some 6 by kernel_rfl).symm.trans hf) |>.symm
  obtain rfl : fn = Tryd.f6 := (Option.some.inj (Tryd.func6.symm.trans hfn)).symm
  refine ⟨by kernel_rfl, fun j t ht => ?_⟩
  rw [Tryd.params6] at ht
  simp at ht

/-- ████ THE CARD ████ -/
theorem proved : Rows.JournalKnownCardSaid :=
  Claim7.holds_tied_plain_at .later [] _ _ _ _ holds (fun _ h => by cases h) (by kernel_rfl) (fun _ h => by cases h) journalKnown_row_tie rfl ⟨rfl, rfl⟩ (by kernel_rfl) rfl plain (by kernel_rfl)
#print axioms proved
end Go.Proofs.YtmegpbadkojhbaaDoor.journalKnown
