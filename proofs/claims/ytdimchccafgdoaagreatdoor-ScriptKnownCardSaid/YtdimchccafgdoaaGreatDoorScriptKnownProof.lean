/- THE LAW ScriptKnown returns true: the chapter's examples, each kind, what is wrong. No condition. -/
import Derived.Test.YtdimchccafgdoaaGreatDoorScriptTab2
import Derived.Test.YtdimchccafgdoaaGreatDoorCards
import Derived.Test.YtdimchccafgdoaaGreatDoorTie
import Derived.ProofKit
import Derived.OpenShut
import Derived.ShutString
import Derived.LaidMore
import Derived.LaidHandle
import Derived.LaidSub
import Derived.Lay
import Derived.SevenTiedAt
import Derived.Stop.Joined
namespace Go.Proofs.YtdimchccafgdoaaGreatDoor.scriptKnown
open Go.ChangeShapes Go.WideShapes Go.ChangeAt Go.RowKit Go.Ev Go.Proofs.YtdimchccafgdoaaGreatDoor.script

theorem own : ownKnob Tryz.prog.godebug = none := by kernel_rfl
set_option maxRecDepth 100000 in
theorem run : @Eq Nat (evP (compRC Tryz.prog) tab6 100000 100 (.func (2 * 7) []) [] H0 isTrue) (nat_lit 1) := by kernel_rfl
set_option maxRecDepth 100000 in
theorem walk (w : World) (hg : GQ w) : Calls Tryz.prog 7 #[] w fun e w' => e = .returned (.bool true) ∧ Below w.heap.size w w' :=
  known mixed tab6OK Tryz.func7 rfl (by kernel_rfl) run w (GQ_lt hg)
theorem rowOne : ((List.range Tryz.prog.types.size).filter fun t => Tryz.prog.rowNamed t [101, 114, 114, 111, 114]) = [31] := by kernel_rfl
theorem handle {W : World} (hL : laidMetH Tryz.prog Rows.scriptKnownRow.laid W) : W.var? Tryz.prog "errors.errorType" = some #[.iface 109 (.agg #[.pointer (some ⟨9, 31, none⟩)])] := by
  have hm : (("errors.errorType", Rows.laid_errors_errorType) : String × DataW Unit) ∈ Rows.scriptKnownRow.laid.filter fun x => x.2.handleName?.isSome := List.mem_filter.2 ⟨by simp [Rows.scriptKnownRow], by kernel_rfl⟩
  obtain ⟨name, u, ty, e1, e2, e3, e4, e5⟩ := (laidMetH_iff.1 hL).2 _ hm
  obtain rfl : [101, 114, 114, 111, 114] = name := Option.some.inj ((show (Rows.laid_errors_errorType : DataW Unit).handleName? = some [101, 114, 114, 111, 114] by kernel_rfl).symm.trans e1)
  obtain rfl : 109 = u := Option.some.inj ((show (Tryz.prog.cutTypes.find? (·.1 == "internal/reflectlite.rtype")).map (·.2) = some 109 by kernel_rfl).symm.trans e2)
  have hx : ty ∈ (List.range Tryz.prog.types.size).filter fun t => Tryz.prog.rowNamed t [101, 114, 114, 111, 114] := List.mem_filter.2 ⟨List.mem_range.2 e3, e4⟩
  rw [rowOne] at hx
  obtain rfl := List.mem_singleton.1 hx
  rw [show typeHandle Tryz.prog 31 = .pointer (some ⟨9, 31, none⟩) by kernel_rfl] at e5
  exact e5
/-- What the package-level variables hold. -/
theorem gq {W : World} (hL : laidMetH Tryz.prog Rows.scriptKnownRow.laid W) : GQ W := by
  have h2 := (laidMetH_iff.1 hL).1
  have e1 : (Rows.laid_unicode_utf8_first : DataW Unit) = Lib.firstData := by kernel_rfl
  have e2 : (Rows.laid_unicode_utf8_acceptRanges : DataW Unit) = Lib.acceptData := by kernel_rfl
  have e3 : (Rows.laid_internal_strconv_uint64pow10 : DataW Unit) = Lib.tabData .u64 Lib.pow10Tab := by kernel_rfl
  have r1 := Lib.laidMet.reads h2 (n := "unicode/utf8.first") (d := Rows.laid_unicode_utf8_first) (List.mem_filter.2 ⟨by simp [Rows.scriptKnownRow], rfl⟩)
  have r2 := Lib.laidMet.reads h2 (n := "unicode/utf8.acceptRanges") (d := Rows.laid_unicode_utf8_acceptRanges) (List.mem_filter.2 ⟨by simp [Rows.scriptKnownRow], rfl⟩)
  have r3 := Lib.laidMet.reads h2 (n := "internal/strconv.uint64pow10") (d := Rows.laid_internal_strconv_uint64pow10) (List.mem_filter.2 ⟨by simp [Rows.scriptKnownRow], rfl⟩)
  have r4 := Lib.laidMet.reads h2 (n := "strconv.ErrSyntax") (d := Rows.laid_strconv_ErrSyntax) (List.mem_filter.2 ⟨by simp [Rows.scriptKnownRow], by kernel_rfl⟩)
  have r5 := Lib.laidMet.reads h2 (n := "strconv.ErrRange") (d := Rows.laid_strconv_ErrRange) (List.mem_filter.2 ⟨by simp [Rows.scriptKnownRow], by kernel_rfl⟩)
  rw [e1] at r1
  rw [e2] at r2
  rw [e3] at r3
  exact gq_of_reads r1 r2 r3 (iface_of_reads r4 (g := 5) (by kernel_rfl) (by kernel_rfl) Tryz.underlying31) (iface_of_reads r5 (g := 6) (by kernel_rfl) (by kernel_rfl) Tryz.underlying31) (handle hL)

/-- A world that meets the condition: the tables laid, the one type's handle in its variable. -/
noncomputable def start (os : Os) : World :=
  let w0 := World.laidAll Tryz.prog os (Rows.scriptKnownRow.laid.filter fun x => x.2.handleName?.isNone)
  { w0 with heap := w0.heap.modify 0 fun
      | .cells _ t fr => .cells #[.iface 109 (.agg #[typeHandle Tryz.prog 31])] t fr
      | o => o }
theorem door_met (os : Os) (args : Array Value) : laidMetH Tryz.prog Rows.scriptKnownRow.laid ((start os).forCall (fun _ _ => 0) ⟨#[], args, []⟩).memory :=
  laidMetH_of_parts (laidMet_of_run' 8 (by kernel_rfl) (by kernel_rfl)) (by kernel_rfl)
set_option maxRecDepth 100000 in
theorem lifted (os : Os) (started : os.Started) (H : Type) (enc : TypeId × Value → H) :
    ReturnsInHanded {} Tryz.checked os 7 .any (fun w args => (Rows.scriptKnownSpec.pre enc Tryz.prog Tryz.f7 Rows.scriptKnownRow.domain false w args ∧ laidMetH Tryz.prog Rows.scriptKnownRow.laid w) ∧ sizedMet enc Tryz.prog Tryz.f7 (OpenSpec.ofChange Rows.scriptKnownSpec) false w args)
      (Rows.scriptKnownSpec.post enc Tryz.prog Tryz.f7 false true false false) := by
  refine returnsInHanded_of_change_and (C := Tryz.checked) (X := fun w _ => laidMetH Tryz.prog Rows.scriptKnownRow.laid w) (fun _ _ _ hh h => h.of_heap hh) own started (by kernel_rfl) Tryz.func7
    (ChangeSpec.witness_shaped (enc := enc) (C := Tryz.checked) (os := os) (X := fun w _ => laidMetH Tryz.prog Rows.scriptKnownRow.laid w) false (start os) #[] 8 rfl
      (World.shaped_of_RefB (by kernel_rfl) (by kernel_rfl)) (by kernel_rfl) (by kernel_rfl) (by kernel_rfl) (door_met os _)) ?_
  intro W base args ds gs before hval0 hW hc _ hL _
  have hW' := hW
  obtain ⟨p, q, hA0, hV, rfl, _, _⟩ := hW
  have hA : DataW.TrodAll enc Tryz.prog W 0 (fun _ => true) true Tryz.f7.params.toList args.toList ds p := hA0
  rw [Tryz.params7] at hA
  obtain ⟨rfl, rfl, rfl⟩ := trodAll_none hA
  obtain ⟨rfl, rfl⟩ := trodVars_none hV
  clear hA0 hval0
  simp only [List.append_nil] at hW'
  refine (walk W (gq hL)).mono fun e W' ⟨he, bel⟩ => ?_
  subst he
  exact ⟨_, rfl, _, _, _, [], [], [], hW', trodAll_mk1 (shut_bool Tryz.underlying4 _), trodAll_mk0, rfl, bel.frame _, fun h => by cases h⟩

theorem holds : Rows.ScriptKnownSaid :=
  OpenClaim.holds_of_wide 7 Tryz.f7 rfl rfl rfl rfl rfl rfl rfl ⟨rfl, rfl, rfl, rfl, rfl⟩ rfl rfl rfl rfl rfl (by kernel_rfl) Tryz.func7 (by kernel_rfl)
    (of_decide_eq_true (by kernel_rfl)) (by unfold Func.isWrapper; first | (rw [if_pos (by decide +kernel)]; kernel_rfl) | (rw [if_neg (by decide +kernel)]; exact ⟨rfl, rfl⟩))
    (fun os started H enc _ => lifted os started H enc)

theorem plain (f : FuncId) (fn : Func) (hf : Tryz.pinned.checked.prog.funcNamed "stemma/stemmalaw29.ScriptKnown" = some f) (hfn : Tryz.pinned.checked.prog.funcs[f]? = some fn) :
    true = Tryz.pinned.checked.prog.looks [] ∧ ∀ (j : Nat) t, fn.params[j]? = some t → Tryz.pinned.checked.prog.wantsStandIn t = false := by
  obtain rfl : f = 7 := Option.some.inj ((show Tryz.prog.funcNamed "stemma/stemmalaw29.ScriptKnown" = some 7 by kernel_rfl).symm.trans hf) |>.symm
  obtain rfl : fn = Tryz.f7 := (Option.some.inj (Tryz.func7.symm.trans hfn)).symm
  refine ⟨by kernel_rfl, fun j t ht => ?_⟩
  rw [Tryz.params7] at ht
  simp at ht

/-- ████ THE CARD ████ -/
theorem proved : Rows.ScriptKnownCardSaid :=
  Claim7.holds_tied_plain_at .later [] _ _ _ _ holds (fun _ h => by cases h) (by kernel_rfl) (fun _ h => by cases h) scriptKnown_row_tie rfl ⟨rfl, rfl⟩ (by kernel_rfl) rfl plain (by kernel_rfl)
#print axioms proved
end Go.Proofs.YtdimchccafgdoaaGreatDoor.scriptKnown
