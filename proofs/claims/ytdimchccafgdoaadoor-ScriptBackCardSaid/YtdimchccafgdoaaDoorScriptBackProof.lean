/- THE LAW ScriptBack returns true: steps that are printed come back. No condition. -/
import Derived.Test.YtdimchccafgdoaaDoorScriptTab3
import Derived.Test.YtdimchccafgdoaaDoorCards
import Derived.Test.YtdimchccafgdoaaDoorTie
import Derived.ProofKit
import Derived.OpenShut
import Derived.ShutString
import Derived.Carry
import Derived.LaidMore
import Derived.LaidHandle
import Derived.LaidSub
import Derived.Lay
import Derived.SevenTiedAt
import Derived.Stop.Joined
namespace Go.Proofs.YtdimchccafgdoaaDoor.scriptBack
open Go.ChangeMaps (open_string shut_string)
open Go.ChangeShapes Go.WideShapes Go.ChangeAt Go.RowKit Go.Ev Go.Proofs.YtdimchccafgdoaaDoor.script

theorem own : ownKnob Tryd.prog.godebug = none := by kernel_rfl
theorem laidOut : laidOutB Tryd.prog = true := by kernel_rfl
theorem walk {w : World} (hg : GQ w) {v0 : Value} {ss0 : List Stp} (h0 : (vOf w.heap.size v0).one = true) (a0 : StAt (adopt w) (vOf w.heap.size v0) ss0) (av0 : (vOf w.heap.size v0 = .nils ∧ ss0 = []) ∨ ∃ b o c z, vOf w.heap.size v0 = .slice b o ss0.length c z ∧ ss0.length + 1 ≤ c) (n0 : ss0.length < 9223372036854775808) (ok0 : ∀ s ∈ ss0, StOK s) {s1 : ByteArray} (n1 : s1.data.toList.length < 9223372036854775808) :
    Calls Tryd.prog 3 #[v0, .string s1] w fun e w' => e = .returned (.bool true) ∧ Below w.heap.size w w' := by
  refine called_cps mixed tabOK (fuel := 2000000) (depth := 0 + 7) (args := [vOf w.heap.size v0, tv s1.data.toList]) ?_ (fun k x hx => by
    obtain ⟨G, f, z⟩ := back_law (cp := compRC Tryd.prog) (fuel := 2000000) asNat coded nats rounds printed worked (adopt_wf w) (by decide) a0 av0 n0 ok0 n1
    rw [z 0 k]
    exact hx G f) (GQ_lt hg)
  simp only [VRs]
  exact ⟨_, _, rfl, vOf_ok w v0 h0, _, _, rfl, vOf_ok w (.string s1) rfl, rfl⟩
theorem rowOne : ((List.range Tryd.prog.types.size).filter fun t => Tryd.prog.rowNamed t [101, 114, 114, 111, 114]) = [27] := by kernel_rfl
theorem handle {W : World} (hL : laidMetH Tryd.prog Rows.scriptBackRow.laid W) : W.var? Tryd.prog "errors.errorType" = some #[.iface 93 (.agg #[.pointer (some ⟨9, 27, none⟩)])] := by
  have hm : (("errors.errorType", Rows.laid_errors_errorType) : String × DataW Unit) ∈ Rows.scriptBackRow.laid.filter fun x => x.2.handleName?.isSome := List.mem_filter.2 ⟨by simp [Rows.scriptBackRow], by kernel_rfl⟩
  obtain ⟨name, u, ty, e1, e2, e3, e4, e5⟩ := (laidMetH_iff.1 hL).2 _ hm
  obtain rfl : [101, 114, 114, 111, 114] = name := Option.some.inj ((show (Rows.laid_errors_errorType : DataW Unit).handleName? = some [101, 114, 114, 111, 114] by kernel_rfl).symm.trans e1)
  obtain rfl : 93 = u := Option.some.inj ((show (Tryd.prog.cutTypes.find? (·.1 == "internal/reflectlite.rtype")).map (·.2) = some 93 by kernel_rfl).symm.trans e2)
  have hx : ty ∈ (List.range Tryd.prog.types.size).filter fun t => Tryd.prog.rowNamed t [101, 114, 114, 111, 114] := List.mem_filter.2 ⟨List.mem_range.2 e3, e4⟩
  rw [rowOne] at hx
  obtain rfl := List.mem_singleton.1 hx
  rw [show typeHandle Tryd.prog 27 = .pointer (some ⟨9, 27, none⟩) by kernel_rfl] at e5
  exact e5
/-- What the package-level variables hold. -/
theorem gq {W : World} (hL : laidMetH Tryd.prog Rows.scriptBackRow.laid W) : GQ W := by
  have h2 := (laidMetH_iff.1 hL).1
  have e1 : (Rows.laid_unicode_utf8_first : DataW Unit) = Lib.firstData := by kernel_rfl
  have e2 : (Rows.laid_unicode_utf8_acceptRanges : DataW Unit) = Lib.acceptData := by kernel_rfl
  have e3 : (Rows.laid_internal_strconv_uint64pow10 : DataW Unit) = Lib.tabData .u64 Lib.pow10Tab := by kernel_rfl
  have r1 := Lib.laidMet.reads h2 (n := "unicode/utf8.first") (d := Rows.laid_unicode_utf8_first) (List.mem_filter.2 ⟨by simp [Rows.scriptBackRow], rfl⟩)
  have r2 := Lib.laidMet.reads h2 (n := "unicode/utf8.acceptRanges") (d := Rows.laid_unicode_utf8_acceptRanges) (List.mem_filter.2 ⟨by simp [Rows.scriptBackRow], rfl⟩)
  have r3 := Lib.laidMet.reads h2 (n := "internal/strconv.uint64pow10") (d := Rows.laid_internal_strconv_uint64pow10) (List.mem_filter.2 ⟨by simp [Rows.scriptBackRow], rfl⟩)
  have r4 := Lib.laidMet.reads h2 (n := "strconv.ErrSyntax") (d := Rows.laid_strconv_ErrSyntax) (List.mem_filter.2 ⟨by simp [Rows.scriptBackRow], by kernel_rfl⟩)
  have r5 := Lib.laidMet.reads h2 (n := "strconv.ErrRange") (d := Rows.laid_strconv_ErrRange) (List.mem_filter.2 ⟨by simp [Rows.scriptBackRow], by kernel_rfl⟩)
  rw [e1] at r1
  rw [e2] at r2
  rw [e3] at r3
  exact gq_of_reads r1 r2 r3 (iface_of_reads r4 (g := 5) (by kernel_rfl) (by kernel_rfl) Tryd.underlying27) (iface_of_reads r5 (g := 6) (by kernel_rfl) (by kernel_rfl) Tryd.underlying27) (handle hL)

/-- A world that meets the condition: the tables laid, the one type's handle in its variable. -/
noncomputable def start (os : Os) : World :=
  let w0 := World.laidAll Tryd.prog os (Rows.scriptBackRow.laid.filter fun x => x.2.handleName?.isNone)
  { w0 with heap := w0.heap.modify 0 fun
      | .cells _ t fr => .cells #[.iface 93 (.agg #[typeHandle Tryd.prog 27])] t fr
      | o => o }
theorem door_met (os : Os) (args : Array Value) : laidMetH Tryd.prog Rows.scriptBackRow.laid ((start os).forCall (fun _ _ => 0) ⟨#[], args, []⟩).memory :=
  laidMetH_of_parts (laidMet_of_run' 8 (by kernel_rfl) (by kernel_rfl)) (by kernel_rfl)
set_option maxRecDepth 100000 in
theorem lifted (os : Os) (started : os.Started) (H : Type) (enc : TypeId × Value → H) :
    ReturnsInHanded {} Tryd.checked os 3 .any (fun w args => (Rows.scriptBackSpec.pre enc Tryd.prog Tryd.f3 Rows.scriptBackRow.domain false w args ∧ laidMetH Tryd.prog Rows.scriptBackRow.laid w) ∧ sizedMet enc Tryd.prog Tryd.f3 (OpenSpec.ofChange Rows.scriptBackSpec) false w args)
      (Rows.scriptBackSpec.post enc Tryd.prog Tryd.f3 false true false false) := by
  refine returnsInHanded_of_change_and (C := Tryd.checked) (X := fun w _ => laidMetH Tryd.prog Rows.scriptBackRow.laid w) (fun _ _ _ hh h => h.of_heap hh) own started (by kernel_rfl) Tryd.func3
    (ChangeSpec.witness_shaped (enc := enc) (C := Tryd.checked) (os := os) (X := fun w _ => laidMetH Tryd.prog Rows.scriptBackRow.laid w) false (start os) #[.slice none 0 0, .string ByteArray.empty] 8 rfl
      (World.shaped_of_RefB (by kernel_rfl) (by kernel_rfl)) (by kernel_rfl) (by kernel_rfl) (by kernel_rfl) (door_met os _)) ?_
  intro W base args ds gs before hval0 hW hc _ hL _
  have hval : ∀ (j : Nat) t v, Tryd.f3.params[j]? = some t → args[j]? = some v → Value.okWide Tryd.prog W .any base t v := hval0
  have hW' := hW
  obtain ⟨p, q, hA0, hV, rfl, hnf, _⟩ := hW
  have hA : DataW.TrodAll enc Tryd.prog W 0 (fun _ => true) true Tryd.f3.params.toList args.toList ds p := hA0
  rw [Tryd.params3] at hA hval
  obtain ⟨v0, v1, d0, d1, p0, p1, rfl, rfl, rfl, k0, k1⟩ := trodAll_two hA
  obtain ⟨rfl, rfl⟩ := trodVars_none hV
  obtain ⟨a0, len0, cap0, rfl⟩ := okWide_slice Tryd.underlying22 (hval 0 22 v0 rfl rfl)
  have lt0 : ∀ x ∈ p0, x.block < W.heap.size := by obtain ⟨m, hm⟩ := k0; exact DataW.trod_lt m _ _ _ hm
  have nf0 : W.noneFrozen p0 := fun b off h => hnf b off (by simp [h])
  obtain ⟨a1, rfl, rfl, rfl, w1⟩ := open_string Tryd.underlying9 (hval 1 9 v1 rfl rfl) k1
  have z1 : a1.data.toList.length < 9223372036854775808 := by
    have e : a1.data.toList.length = a1.size := Array.length_toList
    have m : a1.size ≤ 9223372036854775807 := w1
    omega
  have hg := gq hL
  obtain ⟨one0, ss0, s0, av0, n0, ok0⟩ : (vOf W.heap.size (.slice a0 len0 cap0)).one = true ∧ ∃ ss, StAt (adopt W) (vOf W.heap.size (.slice a0 len0 cap0)) ss ∧ ((vOf W.heap.size (.slice a0 len0 cap0) = .nils ∧ ss = []) ∨ ∃ b o c z, vOf W.heap.size (.slice a0 len0 cap0) = .slice b o ss.length c z ∧ ss.length + 1 ≤ c) ∧ ss.length < 9223372036854775808 ∧ ∀ s ∈ ss, StOK s := by
    obtain ⟨m, hm⟩ := k0
    exact steps_seen hg (x := (d0, p0)) Tryd.underlying22 Tryd.underlying34 (by kernel_rfl) rfl rfl rfl rfl (by kernel_rfl) (by kernel_rfl) (by kernel_rfl) (by kernel_rfl) (by kernel_rfl) (by kernel_rfl) (by kernel_rfl) (by kernel_rfl) hm nf0
  simp only [List.append_nil] at hW'
  refine (walk hg one0 s0 av0 n0 ok0 z1).mono fun e W' ⟨he, bel⟩ => ?_
  subst he
  exact ⟨_, rfl, _, _, _, [], _, [], hW', trodAll_mk1 (shut_bool Tryd.underlying4 _),
    trodAll_mk2 (Below.trod laidOut (by kernel_rfl) (of_decide_eq_true (by kernel_rfl)) k0 bel lt0) (shut_string Tryd.underlying9 w1), rfl, bel.frame _, fun h => by cases h⟩

theorem holds : Rows.ScriptBackSaid :=
  OpenClaim.holds_of_wide 3 Tryd.f3 rfl rfl rfl rfl rfl rfl rfl ⟨rfl, rfl, rfl, rfl, rfl⟩ rfl rfl rfl rfl rfl (by kernel_rfl) Tryd.func3 (by kernel_rfl)
    (of_decide_eq_true (by kernel_rfl)) (by unfold Func.isWrapper; first | (rw [if_pos (by decide +kernel)]; kernel_rfl) | (rw [if_neg (by decide +kernel)]; exact ⟨rfl, rfl⟩))
    (fun os started H enc _ => lifted os started H enc)

theorem plain (f : FuncId) (fn : Func) (hf : Tryd.pinned.checked.prog.funcNamed "stemma/stemmalaw29.ScriptBack" = some f) (hfn : Tryd.pinned.checked.prog.funcs[f]? = some fn) :
    true = Tryd.pinned.checked.prog.looks [] ∧ ∀ (j : Nat) t, fn.params[j]? = some t → Tryd.pinned.checked.prog.wantsStandIn t = false := by
  obtain rfl : f = 3 := Option.some.inj ((show Tryd.prog.funcNamed "stemma/stemmalaw29.ScriptBack" = some 3 by kernel_rfl).symm.trans hf) |>.symm
  obtain rfl : fn = Tryd.f3 := (Option.some.inj (Tryd.func3.symm.trans hfn)).symm
  refine ⟨by kernel_rfl, fun j t ht => ?_⟩
  rw [Tryd.params3] at ht
  have hm : t ∈ [22, 9] := by simpa using Array.mem_of_getElem? ht
  have hall : ([22, 9].all fun u => !Tryd.prog.wantsStandIn u) = true := by kernel_rfl
  exact (show Tryd.prog.wantsStandIn t = false by simpa using List.all_eq_true.1 hall t hm)

/-- ████ THE CARD ████ -/
theorem proved : Rows.ScriptBackCardSaid :=
  Claim7.holds_tied_plain_at .later [] _ _ _ _ holds (fun _ h => by cases h) (by kernel_rfl) (fun _ h => by cases h) scriptBack_row_tie rfl ⟨rfl, rfl⟩ (by kernel_rfl) rfl plain (by kernel_rfl)
#print axioms proved
end Go.Proofs.YtdimchccafgdoaaDoor.scriptBack
