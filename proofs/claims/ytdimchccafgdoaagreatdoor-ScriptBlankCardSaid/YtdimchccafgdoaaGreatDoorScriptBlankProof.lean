/- THE LAW ScriptBlank returns true: blanks, empty lines and remarks change nothing. No condition. -/
import Derived.Test.YtdimchccafgdoaaGreatDoorScriptTab3
import Derived.Test.YtdimchccafgdoaaGreatDoorCards
import Derived.Test.YtdimchccafgdoaaGreatDoorTie
import Derived.ProofKit
import Derived.OpenShut
import Derived.ShutString
import Derived.Carry
import Derived.LaidMore
import Derived.LaidHandle
import Derived.LaidSub
import Derived.Lay
import Derived.SevenTiedAt
import Derived.Stop.Joined
namespace Go.Proofs.YtdimchccafgdoaaGreatDoor.scriptBlank
open Go.ChangeMaps (open_string shut_string)
open Go.ChangeShapes Go.WideShapes Go.ChangeAt Go.RowKit Go.Ev Go.Proofs.YtdimchccafgdoaaGreatDoor.script

theorem own : ownKnob Tryz.prog.godebug = none := by kernel_rfl
theorem walk {w : World} (hg : GQ w) {s0 : ByteArray} (n0 : s0.data.toList.length < 9223372036854775808) {n1 : Int} (w1 : (Lit.int .u8 n1).wf = true) :
    Calls Tryz.prog 6 #[.string s0, .int .u8 n1] w fun e w' => e = .returned (.bool true) ∧ Below w.heap.size w w' := by
  refine called_cps mixed tabOK (fuel := 2000000) (depth := 0 + 8) (args := [tv s0.data.toList, .int 4 (n1 % (2 ^ IntKind.u8.bits : Nat)).toNat]) ?_ (fun k x hx => by
    obtain ⟨G, f, z⟩ := blank_law (cp := compRC Tryz.prog) (fuel := 2000000) asNat isNat coded nats rounds worked (adopt_wf w) (by decide) n0 u8_lt
    rw [z 0 k]
    exact hx G f) (GQ_lt hg)
  have i1 := vOf_ok w (.int .u8 n1) (by rw [vOf_int w1]; rfl)
  rw [vOf_int w1] at i1
  simp only [VRs]
  exact ⟨_, _, rfl, vOf_ok w (.string s0) rfl, _, _, rfl, i1, rfl⟩
theorem rowOne : ((List.range Tryz.prog.types.size).filter fun t => Tryz.prog.rowNamed t [101, 114, 114, 111, 114]) = [31] := by kernel_rfl
theorem handle {W : World} (hL : laidMetH Tryz.prog Rows.scriptBlankRow.laid W) : W.var? Tryz.prog "errors.errorType" = some #[.iface 109 (.agg #[.pointer (some ⟨9, 31, none⟩)])] := by
  have hm : (("errors.errorType", Rows.laid_errors_errorType) : String × DataW Unit) ∈ Rows.scriptBlankRow.laid.filter fun x => x.2.handleName?.isSome := List.mem_filter.2 ⟨by simp [Rows.scriptBlankRow], by kernel_rfl⟩
  obtain ⟨name, u, ty, e1, e2, e3, e4, e5⟩ := (laidMetH_iff.1 hL).2 _ hm
  obtain rfl : [101, 114, 114, 111, 114] = name := Option.some.inj ((show (Rows.laid_errors_errorType : DataW Unit).handleName? = some [101, 114, 114, 111, 114] by kernel_rfl).symm.trans e1)
  obtain rfl : 109 = u := Option.some.inj ((show (Tryz.prog.cutTypes.find? (·.1 == "internal/reflectlite.rtype")).map (·.2) = some 109 by kernel_rfl).symm.trans e2)
  have hx : ty ∈ (List.range Tryz.prog.types.size).filter fun t => Tryz.prog.rowNamed t [101, 114, 114, 111, 114] := List.mem_filter.2 ⟨List.mem_range.2 e3, e4⟩
  rw [rowOne] at hx
  obtain rfl := List.mem_singleton.1 hx
  rw [show typeHandle Tryz.prog 31 = .pointer (some ⟨9, 31, none⟩) by kernel_rfl] at e5
  exact e5
/-- What the package-level variables hold. -/
theorem gq {W : World} (hL : laidMetH Tryz.prog Rows.scriptBlankRow.laid W) : GQ W := by
  have h2 := (laidMetH_iff.1 hL).1
  have e1 : (Rows.laid_unicode_utf8_first : DataW Unit) = Lib.firstData := by kernel_rfl
  have e2 : (Rows.laid_unicode_utf8_acceptRanges : DataW Unit) = Lib.acceptData := by kernel_rfl
  have e3 : (Rows.laid_internal_strconv_uint64pow10 : DataW Unit) = Lib.tabData .u64 Lib.pow10Tab := by kernel_rfl
  have r1 := Lib.laidMet.reads h2 (n := "unicode/utf8.first") (d := Rows.laid_unicode_utf8_first) (List.mem_filter.2 ⟨by simp [Rows.scriptBlankRow], rfl⟩)
  have r2 := Lib.laidMet.reads h2 (n := "unicode/utf8.acceptRanges") (d := Rows.laid_unicode_utf8_acceptRanges) (List.mem_filter.2 ⟨by simp [Rows.scriptBlankRow], rfl⟩)
  have r3 := Lib.laidMet.reads h2 (n := "internal/strconv.uint64pow10") (d := Rows.laid_internal_strconv_uint64pow10) (List.mem_filter.2 ⟨by simp [Rows.scriptBlankRow], rfl⟩)
  have r4 := Lib.laidMet.reads h2 (n := "strconv.ErrSyntax") (d := Rows.laid_strconv_ErrSyntax) (List.mem_filter.2 ⟨by simp [Rows.scriptBlankRow], by kernel_rfl⟩)
  have r5 := Lib.laidMet.reads h2 (n := "strconv.ErrRange") (d := Rows.laid_strconv_ErrRange) (List.mem_filter.2 ⟨by simp [Rows.scriptBlankRow], by kernel_rfl⟩)
  rw [e1] at r1
  rw [e2] at r2
  rw [e3] at r3
  exact gq_of_reads r1 r2 r3 (iface_of_reads r4 (g := 5) (by kernel_rfl) (by kernel_rfl) Tryz.underlying31) (iface_of_reads r5 (g := 6) (by kernel_rfl) (by kernel_rfl) Tryz.underlying31) (handle hL)

/-- A world that meets the condition: the tables laid, the one type's handle in its variable. -/
noncomputable def start (os : Os) : World :=
  let w0 := World.laidAll Tryz.prog os (Rows.scriptBlankRow.laid.filter fun x => x.2.handleName?.isNone)
  { w0 with heap := w0.heap.modify 0 fun
      | .cells _ t fr => .cells #[.iface 109 (.agg #[typeHandle Tryz.prog 31])] t fr
      | o => o }
theorem door_met (os : Os) (args : Array Value) : laidMetH Tryz.prog Rows.scriptBlankRow.laid ((start os).forCall (fun _ _ => 0) ⟨#[], args, []⟩).memory :=
  laidMetH_of_parts (laidMet_of_run' 8 (by kernel_rfl) (by kernel_rfl)) (by kernel_rfl)
set_option maxRecDepth 100000 in
theorem lifted (os : Os) (started : os.Started) (H : Type) (enc : TypeId × Value → H) :
    ReturnsInHanded {} Tryz.checked os 6 .any (fun w args => (Rows.scriptBlankSpec.pre enc Tryz.prog Tryz.f6 Rows.scriptBlankRow.domain false w args ∧ laidMetH Tryz.prog Rows.scriptBlankRow.laid w) ∧ sizedMet enc Tryz.prog Tryz.f6 (OpenSpec.ofChange Rows.scriptBlankSpec) false w args)
      (Rows.scriptBlankSpec.post enc Tryz.prog Tryz.f6 false true false false) := by
  refine returnsInHanded_of_change_and (C := Tryz.checked) (X := fun w _ => laidMetH Tryz.prog Rows.scriptBlankRow.laid w) (fun _ _ _ hh h => h.of_heap hh) own started (by kernel_rfl) Tryz.func6
    (ChangeSpec.witness_shaped (enc := enc) (C := Tryz.checked) (os := os) (X := fun w _ => laidMetH Tryz.prog Rows.scriptBlankRow.laid w) false (start os) #[.string ByteArray.empty, .int .u8 0] 8 rfl
      (World.shaped_of_RefB (by kernel_rfl) (by kernel_rfl)) (by kernel_rfl) (by kernel_rfl) (by kernel_rfl) (door_met os _)) ?_
  intro W base args ds gs before hval0 hW hc _ hL _
  have hval : ∀ (j : Nat) t v, Tryz.f6.params[j]? = some t → args[j]? = some v → Value.okWide Tryz.prog W .any base t v := hval0
  have hW' := hW
  obtain ⟨p, q, hA0, hV, rfl, _, _⟩ := hW
  have hA : DataW.TrodAll enc Tryz.prog W 0 (fun _ => true) true Tryz.f6.params.toList args.toList ds p := hA0
  rw [Tryz.params6] at hA hval
  obtain ⟨v0, v1, d0, d1, p0, p1, rfl, rfl, rfl, k0, k1⟩ := trodAll_two hA
  obtain ⟨rfl, rfl⟩ := trodVars_none hV
  obtain ⟨a0, rfl, rfl, rfl, w0⟩ := open_string Tryz.underlying9 (hval 0 9 v0 rfl rfl) k0
  have z0 : a0.data.toList.length < 9223372036854775808 := by
    have e : a0.data.toList.length = a0.size := Array.length_toList
    have m : a0.size ≤ 9223372036854775807 := w0
    omega
  obtain ⟨m1, rfl, rfl, rfl, w1⟩ := open_int Tryz.underlying5 (hval 1 5 v1 rfl rfl) k1
  have hg := gq hL
  simp only [List.append_nil] at hW'
  refine (walk hg z0 w1).mono fun e W' ⟨he, bel⟩ => ?_
  subst he
  exact ⟨_, rfl, _, _, _, [], _, [], hW', trodAll_mk1 (shut_bool Tryz.underlying4 _),
    trodAll_mk2 (shut_string Tryz.underlying9 w0) (shut_int Tryz.underlying5 w1), rfl, bel.frame _, fun h => by cases h⟩

theorem holds : Rows.ScriptBlankSaid :=
  OpenClaim.holds_of_wide 6 Tryz.f6 rfl rfl rfl rfl rfl rfl rfl ⟨rfl, rfl, rfl, rfl, rfl⟩ rfl rfl rfl rfl rfl (by kernel_rfl) Tryz.func6 (by kernel_rfl)
    (of_decide_eq_true (by kernel_rfl)) (by unfold Func.isWrapper; first | (rw [if_pos (by decide +kernel)]; kernel_rfl) | (rw [if_neg (by decide +kernel)]; exact ⟨rfl, rfl⟩))
    (fun os started H enc _ => lifted os started H enc)

theorem plain (f : FuncId) (fn : Func) (hf : Tryz.pinned.checked.prog.funcNamed "stemma/stemmalaw29.ScriptBlank" = some f) (hfn : Tryz.pinned.checked.prog.funcs[f]? = some fn) :
    true = Tryz.pinned.checked.prog.looks [] ∧ ∀ (j : Nat) t, fn.params[j]? = some t → Tryz.pinned.checked.prog.wantsStandIn t = false := by
  obtain rfl : f = 6 := Option.some.inj ((show Tryz.prog.funcNamed "stemma/stemmalaw29.ScriptBlank" = some 6 by kernel_rfl).symm.trans hf) |>.symm
  obtain rfl : fn = Tryz.f6 := (Option.some.inj (Tryz.func6.symm.trans hfn)).symm
  refine ⟨by kernel_rfl, fun j t ht => ?_⟩
  rw [Tryz.params6] at ht
  have hm : t ∈ [9, 5] := by simpa using Array.mem_of_getElem? ht
  have hall : ([9, 5].all fun u => !Tryz.prog.wantsStandIn u) = true := by kernel_rfl
  exact (show Tryz.prog.wantsStandIn t = false by simpa using List.all_eq_true.1 hall t hm)

/-- ████ THE CARD ████ -/
theorem proved : Rows.ScriptBlankCardSaid :=
  Claim7.holds_tied_plain_at .later [] _ _ _ _ holds (fun _ h => by cases h) (by kernel_rfl) (fun _ h => by cases h) scriptBlank_row_tie rfl ⟨rfl, rfl⟩ (by kernel_rfl) rfl plain (by kernel_rfl)
#print axioms proved
end Go.Proofs.YtdimchccafgdoaaGreatDoor.scriptBlank
