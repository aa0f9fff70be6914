/- THE LAW ScriptPrints returns true: the text of any steps is as the document says. No condition. -/
import Derived.Test.YtdimchccafgdoaaGreatDoorScriptTab
import Derived.Test.YtdimchccafgdoaaGreatDoorCards
import Derived.Test.YtdimchccafgdoaaGreatDoorTie
import Derived.ProofKit
import Derived.OpenShut
import Derived.ShutString
import Derived.Carry
import Derived.LaidMore
import Derived.LaidHandle
import Derived.Lay
import Derived.SevenTiedAt
import Derived.Stop.Joined
namespace Go.Proofs.YtdimchccafgdoaaGreatDoor.scriptPrints
open Go.ChangeShapes Go.WideShapes Go.ChangeAt Go.RowKit Go.Ev Go.Proofs.YtdimchccafgdoaaGreatDoor.script

theorem own : ownKnob Tryz.prog.godebug = none := by kernel_rfl
theorem laidOut : laidOutB Tryz.prog = true := by kernel_rfl
theorem walk {w : World} (hg : GQ w) {v0 : Value} {ss : List Stp} (h0 : (vOf w.heap.size v0).one = true) (a0 : StAt (adopt w) (vOf w.heap.size v0) ss) (n0 : ss.length < 9223372036854775808) (ok : ∀ s ∈ ss, StOK s) :
    Calls Tryz.prog 3 #[v0] w fun e w' => e = .returned (.bool true) ∧ Below w.heap.size w w' := by
  refine called_cps mixed tabOK (fuel := 2000000) (depth := 0 + 8) (args := [vOf w.heap.size v0]) ?_ (fun k x hx => by
    obtain ⟨G, f, z⟩ := prints_law (cp := compRC Tryz.prog) (fuel := 2000000) coded printed worked (adopt_wf w) (by decide) a0 n0 ok
    rw [z 0 k]
    exact hx G f) (GQ_lt hg)
  simp only [VRs]
  exact ⟨_, _, rfl, vOf_ok w v0 h0, rfl⟩

/-- What the package-level variables hold. -/
theorem gq {W : World} (hL : laidMetH Tryz.prog Rows.scriptPrintsRow.laid W) : GQ W := by
  have h2 := (laidMetH_iff.1 hL).1
  have e1 : (Rows.laid_unicode_utf8_first : DataW Unit) = Lib.firstData := by kernel_rfl
  have e2 : (Rows.laid_unicode_utf8_acceptRanges : DataW Unit) = Lib.acceptData := by kernel_rfl
  have e3 : (Rows.laid_internal_strconv_uint64pow10 : DataW Unit) = Lib.tabData .u64 Lib.pow10Tab := by kernel_rfl
  have r1 := Lib.laidMet.reads h2 (n := "unicode/utf8.first") (d := Rows.laid_unicode_utf8_first) (List.mem_filter.2 ⟨by simp [Rows.scriptPrintsRow], rfl⟩)
  have r2 := Lib.laidMet.reads h2 (n := "unicode/utf8.acceptRanges") (d := Rows.laid_unicode_utf8_acceptRanges) (List.mem_filter.2 ⟨by simp [Rows.scriptPrintsRow], rfl⟩)
  have r3 := Lib.laidMet.reads h2 (n := "internal/strconv.uint64pow10") (d := Rows.laid_internal_strconv_uint64pow10) (List.mem_filter.2 ⟨by simp [Rows.scriptPrintsRow], rfl⟩)
  have r4 := Lib.laidMet.reads h2 (n := "strconv.ErrSyntax") (d := Rows.laid_strconv_ErrSyntax) (List.mem_filter.2 ⟨by simp [Rows.scriptPrintsRow], by kernel_rfl⟩)
  have r5 := Lib.laidMet.reads h2 (n := "strconv.ErrRange") (d := Rows.laid_strconv_ErrRange) (List.mem_filter.2 ⟨by simp [Rows.scriptPrintsRow], by kernel_rfl⟩)
  rw [e1] at r1
  rw [e2] at r2
  rw [e3] at r3
  exact gq_of_reads r1 r2 r3 (iface_of_reads r4 (g := 5) (by kernel_rfl) (by kernel_rfl) Tryz.underlying31) (iface_of_reads r5 (g := 6) (by kernel_rfl) (by kernel_rfl) Tryz.underlying31)

/-- A world that meets the condition: the tables laid, the one type's handle in its variable. -/
noncomputable def start (os : Os) : World :=
  let w0 := World.laidAll Tryz.prog os (Rows.scriptPrintsRow.laid.filter fun x => x.2.handleName?.isNone)
  { w0 with heap := w0.heap.modify 0 fun
      | .cells _ t fr => .cells #[.iface 109 (.agg #[typeHandle Tryz.prog 31])] t fr
      | o => o }
theorem door_met (os : Os) (args : Array Value) : laidMetH Tryz.prog Rows.scriptPrintsRow.laid ((start os).forCall (fun _ _ => 0) ⟨#[], args, []⟩).memory :=
  laidMetH_of_parts (laidMet_of_run' 8 (by kernel_rfl) (by kernel_rfl)) (by kernel_rfl)
set_option maxRecDepth 100000 in
theorem lifted (os : Os) (started : os.Started) (H : Type) (enc : TypeId × Value → H) :
    ReturnsInHanded {} Tryz.checked os 3 .any (fun w args => (Rows.scriptPrintsSpec.pre enc Tryz.prog Tryz.f3 Rows.scriptPrintsRow.domain false w args ∧ laidMetH Tryz.prog Rows.scriptPrintsRow.laid w) ∧ sizedMet enc Tryz.prog Tryz.f3 (OpenSpec.ofChange Rows.scriptPrintsSpec) false w args)
      (Rows.scriptPrintsSpec.post enc Tryz.prog Tryz.f3 false true false false) := by
  refine returnsInHanded_of_change_and (C := Tryz.checked) (X := fun w _ => laidMetH Tryz.prog Rows.scriptPrintsRow.laid w) (fun _ _ _ hh h => h.of_heap hh) own started (by kernel_rfl) Tryz.func3
    (ChangeSpec.witness_shaped (enc := enc) (C := Tryz.checked) (os := os) (X := fun w _ => laidMetH Tryz.prog Rows.scriptPrintsRow.laid w) false (start os) #[.slice none 0 0] 8 rfl
      (World.shaped_of_RefB (by kernel_rfl) (by kernel_rfl)) (by kernel_rfl) (by kernel_rfl) (by kernel_rfl) (door_met os _)) ?_
  intro W base args ds gs before hval0 hW hc _ hL _
  have hval : ∀ (j : Nat) t v, Tryz.f3.params[j]? = some t → args[j]? = some v → Value.okWide Tryz.prog W .any base t v := hval0
  have hW' := hW
  obtain ⟨p, q, hA0, hV, rfl, hnf, _⟩ := hW
  have hA : DataW.TrodAll enc Tryz.prog W 0 (fun _ => true) true Tryz.f3.params.toList args.toList ds p := hA0
  rw [Tryz.params3] at hA hval
  obtain ⟨v0, d0, rfl, rfl, k0⟩ := trodAll_one hA
  obtain ⟨rfl, rfl⟩ := trodVars_none hV
  obtain ⟨a0, len0, cap0, rfl⟩ := okWide_slice Tryz.underlying22 (hval 0 22 v0 rfl rfl)
  have lt0 : ∀ x ∈ p, x.block < W.heap.size := by obtain ⟨m, hm⟩ := k0; exact DataW.trod_lt m _ _ _ hm
  have nf0 : W.noneFrozen p := fun b off h => hnf b off (by simp [h])
  have hg := gq hL
  obtain ⟨one0, ss, s0, _, n0, ok⟩ : (vOf W.heap.size (.slice a0 len0 cap0)).one = true ∧ ∃ ss, StAt (adopt W) (vOf W.heap.size (.slice a0 len0 cap0)) ss ∧ ((vOf W.heap.size (.slice a0 len0 cap0) = .nils ∧ ss = []) ∨ ∃ b o c z, vOf W.heap.size (.slice a0 len0 cap0) = .slice b o ss.length c z ∧ ss.length + 1 ≤ c) ∧ ss.length < 9223372036854775808 ∧ ∀ s ∈ ss, StOK s := by
    obtain ⟨m, hm⟩ := k0
    exact steps_seen hg (x := (d0, p)) Tryz.underlying22 Tryz.underlying24 (by kernel_rfl) rfl rfl rfl rfl (by kernel_rfl) (by kernel_rfl) (by kernel_rfl) (by kernel_rfl) (by kernel_rfl) (by kernel_rfl) (by kernel_rfl) (by kernel_rfl) hm nf0
  simp only [List.append_nil] at hW'
  refine (walk hg one0 s0 n0 ok).mono fun e W' ⟨he, bel⟩ => ?_
  subst he
  exact ⟨_, rfl, _, _, _, [], _, [], hW', trodAll_mk1 (shut_bool Tryz.underlying4 _),
    trodAll_mk1 (Below.trod laidOut (by kernel_rfl) (of_decide_eq_true (by kernel_rfl)) k0 bel lt0), rfl, bel.frame _, fun h => by cases h⟩

theorem holds : Rows.ScriptPrintsSaid :=
  OpenClaim.holds_of_wide 3 Tryz.f3 rfl rfl rfl rfl rfl rfl rfl ⟨rfl, rfl, rfl, rfl, rfl⟩ rfl rfl rfl rfl rfl (by kernel_rfl) Tryz.func3 (by kernel_rfl)
    (of_decide_eq_true (by kernel_rfl)) (by unfold Func.isWrapper; first | (rw [if_pos (by decide +kernel)]; kernel_rfl) | (rw [if_neg (by decide +kernel)]; exact ⟨rfl, rfl⟩))
    (fun os started H enc _ => lifted os started H enc)

theorem plain (f : FuncId) (fn : Func) (hf : Tryz.pinned.checked.prog.funcNamed "stemma/stemmalaw29.ScriptPrints" = some f) (hfn : Tryz.pinned.checked.prog.funcs[f]? = some fn) :
    true = Tryz.pinned.checked.prog.looks [] ∧ ∀ (j : Nat) t, fn.params[j]? = some t → Tryz.pinned.checked.prog.wantsStandIn t = false := by
  obtain rfl : f = 3 := Option.some.inj ((show Tryz.prog.funcNamed "stemma/stemmalaw29.ScriptPrints" = some 3 by kernel_rfl).symm.trans hf) |>.symm
  obtain rfl : fn = Tryz.f3 := (Option.some.inj (Tryz.func3.symm.trans hfn)).symm
  refine ⟨by kernel_rfl, fun j t ht => ?_⟩
  rw [Tryz.params3] at ht
  have hm : t ∈ [22] := by simpa using Array.mem_of_getElem? ht
  have hall : ([22].all fun u => !Tryz.prog.wantsStandIn u) = true := by kernel_rfl
  exact (show Tryz.prog.wantsStandIn t = false by simpa using List.all_eq_true.1 hall t hm)

/-- ████ THE CARD ████ -/
theorem proved : Rows.ScriptPrintsCardSaid :=
  Claim7.holds_tied_plain_at .later [] _ _ _ _ holds (fun _ h => by cases h) (by kernel_rfl) (fun _ h => by cases h) scriptPrints_row_tie rfl ⟨rfl, rfl⟩ (by kernel_rfl) rfl plain (by kernel_rfl)
#print axioms proved
end Go.Proofs.YtdimchccafgdoaaGreatDoor.scriptPrints
