/- THE LAW KeepLong returns true: a log of any length that comes in pieces is kept; one in which too many entries are others is refused. No condition. -/
import Derived.Test.YtmegpbadkojhbaaGreatDoorLE
import Derived.Test.YtmegpbadkojhbaaGreatDoorEvFrame
import Derived.Test.YtmegpbadkojhbaaGreatDoorEvCrc2
import Derived.Test.YtmegpbadkojhbaaGreatDoorEvJoin2
import Derived.Test.YtmegpbadkojhbaaGreatDoorCards
import Derived.Test.YtmegpbadkojhbaaGreatDoorTie
import Derived.ProofKit
import Derived.OpenShut
import Derived.ShutString
import Derived.Carry
import Derived.LaidMore
import Derived.Lay
import Derived.SevenTiedAt
import Derived.Stop.Joined
namespace Go.Proofs.YtmegpbadkojhbaaGreatDoor.keepLong
open Go.ChangeShapes Go.WideShapes Go.ChangeAt Go.RowKit Go.Ev

theorem own : ownKnob Tryz.prog.godebug = none := by kernel_rfl
theorem laidOut : laidOutB Tryz.prog = true := by kernel_rfl
noncomputable def tab0 : Nat → Option FnE := fun f => Bool.rec (motive := fun _ => Option FnE) (Bool.rec (motive := fun _ => Option FnE) ((Tryz.prog.funcs[f]?).bind (compFn Tryz.prog f)) (some (.nat nCrc1)) (Nat.beq f 144)) (some (.nat nJoin2)) (Nat.beq f 125)
theorem tab0OK : TabOK Tryz.prog tab0 := TabOK.nat joinOK.nat (TabOK.nat natCrc_ok (TabOK.base (by kernel_rfl)))
set_option maxRecDepth 100000 in
theorem run : @Eq Nat (evP (compRC Tryz.prog) tab0 100000 100 (.func (2 * 7) []) [] H0 isTrue) (nat_lit 1) := by kernel_rfl
set_option maxRecDepth 100000 in
theorem ran (w : World) : Calls Tryz.prog 7 #[] w fun e w' => e = .returned (.bool true) ∧ Below w.heap.size w w' :=
  known (by kernel_rfl) tab0OK Tryz.func7 rfl (by kernel_rfl) run w
theorem works_ok : NatOK Tryz.prog 7 nWorks := fun args H k h => by
  match args, h with
  | [], h =>
    refine ⟨.bool true, H, CallF.of_calls Tryz.func7 rfl rfl fun base w0 rho w cargs hp hv => ?_, h⟩
    have hc : cargs = #[] := by
      simp only [VRs] at hv
      cases cargs
      simp_all
    subst hc
    exact ⟨.bool true, by simp only [VR], ran w⟩
  | _ :: _, h => exact (no_ne h).elim
noncomputable def tab : Nat → Option FnE := fun f => Bool.rec (motive := fun _ => Option FnE) (Bool.rec (motive := fun _ => Option FnE) (Bool.rec (motive := fun _ => Option FnE) ((Tryz.prog.funcs[f]?).bind (compFn Tryz.prog f)) (some (.nat nWorks)) (Nat.beq f 7)) (some (.nat (nPack packL))) (Nat.beq f 104)) (some (.nat (nUnpack unpackL))) (Nat.beq f 74)
theorem tabOK : TabOK Tryz.prog tab := TabOK.nat natUnpack_ok (TabOK.nat natPack_ok (TabOK.nat works_ok (TabOK.base (by kernel_rfl))))
theorem tab_base (f : Nat) (h : (Nat.beq f 74 = false ∧ Nat.beq f 104 = false) ∧ Nat.beq f 7 = false) : tab f = (Tryz.prog.funcs[f]?).bind (compFn Tryz.prog f) := by
  obtain ⟨⟨h1, h2⟩, h3⟩ := h
  unfold tab
  rw [h1, h2, h3]
theorem others : ∀ f ∈ codeFns, (Nat.beq f 74 = false ∧ Nat.beq f 104 = false) ∧ Nat.beq f 7 = false := by unfold codeFns; decide
theorem coded : TCode tab := TCode.over (fun f hf => tab_base f (others f hf)) codes
theorem worked : tab 7 = some (.nat nWorks) := by
  unfold tab
  rw [show Nat.beq 7 74 = false from rfl, show Nat.beq 7 104 = false from rfl, show Nat.beq 7 7 = true from rfl]
theorem packed : tab 104 = some (.nat (nPack packL)) := by
  unfold tab
  rw [show Nat.beq 104 74 = false from rfl, show Nat.beq 104 104 = true from rfl]
theorem unpacked : tab 74 = some (.nat (nUnpack unpackL)) := by
  unfold tab
  rw [show Nat.beq 74 74 = true from rfl]

theorem walk {w : World} {n m : Int} (w0 : (Lit.int .u16 n).wf = true) (w1 : (Lit.int .u8 m).wf = true) :
    Calls Tryz.prog 3 #[.int .u16 n, .int .u8 m] w fun e w' => e = .returned (.bool true) ∧ Below w.heap.size w w' := by
  refine called_cps (by kernel_rfl) tabOK (fuel := 2000000) (depth := 0 + 10) (args := [.int 5 (n % (2 ^ IntKind.u16.bits : Nat)).toNat, .int 4 (m % (2 ^ IntKind.u8.bits : Nat)).toNat]) ?_ fun k x hx =>
    keepLong_call (cp := compRC Tryz.prog) (fuel := 2000000) coded rfl frameOK packed unpacked worked (adopt_wf w) u16_lt u8_lt (by decide) 0 k x hx
  have i0 := vOf_ok w (.int .u16 n) (by rw [vOf_int w0]; rfl)
  have i1 := vOf_ok w (.int .u8 m) (by rw [vOf_int w1]; rfl)
  rw [vOf_int w0] at i0
  simp only [VR] at i0
  rw [vOf_int w1] at i1
  simp only [VR] at i1
  simp only [VRs, VR]
  exact ⟨_, _, rfl, i0, _, _, rfl, i1, rfl⟩

set_option maxRecDepth 100000 in
theorem lifted (os : Os) (started : os.Started) (H : Type) (enc : TypeId × Value → H) :
    ReturnsInHanded {} Tryz.checked os 3 .any (fun w args => (Rows.keepLongSpec.pre enc Tryz.prog Tryz.f3 Rows.keepLongRow.domain false w args ∧ laidMetH Tryz.prog Rows.keepLongRow.laid w) ∧ sizedMet enc Tryz.prog Tryz.f3 (OpenSpec.ofChange Rows.keepLongSpec) false w args)
      (Rows.keepLongSpec.post enc Tryz.prog Tryz.f3 false true false false) := by
  refine returnsInHanded_of_change_and (C := Tryz.checked) (X := fun w _ => laidMetH Tryz.prog Rows.keepLongRow.laid w) (fun _ _ _ hh h => h.of_heap hh) own started (by kernel_rfl) Tryz.func3
    (ChangeSpec.witness_shaped (enc := enc) (C := Tryz.checked) (os := os) (X := fun w _ => laidMetH Tryz.prog Rows.keepLongRow.laid w) false (World.laidAll Tryz.prog os Rows.keepLongRow.laid) #[.int .u16 0, .int .u8 0] 8 (World.laidAll_os _ _ _)
      (World.shaped_of_ZipB (by kernel_rfl) (by kernel_rfl)) (by kernel_rfl) (by kernel_rfl) (by kernel_rfl)
      (by rw [MakeChecks.laidMetH_plain _ _ _ (by kernel_rfl)]; exact laidMet_laidAll _ (by kernel_rfl) (by kernel_rfl))) ?_
  intro W base args ds gs before hval0 hW hc _ hL _
  have hval : ∀ (j : Nat) t v, Tryz.f3.params[j]? = some t → args[j]? = some v → Value.okWide Tryz.prog W .any base t v := hval0
  have hW' := hW
  obtain ⟨p, q, hA0, hV, rfl, hnf, _⟩ := hW
  have hA : DataW.TrodAll enc Tryz.prog W 0 (fun _ => true) true Tryz.f3.params.toList args.toList ds p := hA0
  rw [Tryz.params3] at hA hval
  obtain ⟨v0, v1, d0, d1, p0, p1, rfl, rfl, rfl, k0, k1⟩ := trodAll_two hA
  obtain ⟨rfl, rfl⟩ := trodVars_none hV
  obtain ⟨n0, rfl, rfl, rfl, w0⟩ := open_int Tryz.underlying22 (hval 0 22 v0 rfl rfl) k0
  obtain ⟨n1, rfl, rfl, rfl, w1⟩ := open_int Tryz.underlying5 (hval 1 5 v1 rfl rfl) k1
  simp only [List.append_nil] at hW'
  refine (walk w0 w1).mono fun e W' ⟨he, bel⟩ => ?_
  subst he
  exact ⟨_, rfl, _, _, _, [], _, [], hW', trodAll_mk1 (shut_bool Tryz.underlying4 _),
    trodAll_mk2 (shut_int Tryz.underlying22 w0) (shut_int Tryz.underlying5 w1), rfl, bel.frame _, fun h => by cases h⟩

theorem holds : Rows.KeepLongSaid :=
  OpenClaim.holds_of_wide 3 Tryz.f3 rfl rfl rfl rfl rfl rfl rfl ⟨rfl, rfl, rfl, rfl, rfl⟩ rfl rfl rfl rfl rfl (by kernel_rfl) Tryz.func3 (by kernel_rfl)
    (of_decide_eq_true (by kernel_rfl)) (by unfold Func.isWrapper; first | (rw [if_pos (by decide +kernel)]; kernel_rfl) | (rw [if_neg (by decide +kernel)]; exact ⟨rfl, rfl⟩))
    (fun os started H enc _ => lifted os started H enc)

theorem plain (f : FuncId) (fn : Func) (hf : Tryz.pinned.checked.prog.funcNamed "stemma/stemmalaw16.KeepLong" = some f) (hfn : Tryz.pinned.checked.prog.funcs[f]? = some fn) :
    false = Tryz.pinned.checked.prog.looks [] ∧ ∀ (j : Nat) t, fn.params[j]? = some t → Tryz.pinned.checked.prog.wantsStandIn t = false := by
  obtain rfl : f = 3 := Option.some.inj ((show Tryz.prog.funcNamed "stemma/stemmalaw16.KeepLong" = some 3 by kernel_rfl).symm.trans hf) |>.symm
  obtain rfl : fn = Tryz.f3 := (Option.some.inj (Tryz.func3.symm.trans hfn)).symm
  refine ⟨by kernel_rfl, fun j t ht => ?_⟩
  rw [Tryz.params3] at ht
  have hm : t ∈ [22, 5] := by simpa using Array.mem_of_getElem? ht
  have hall : ([22, 5].all fun u => !Tryz.prog.wantsStandIn u) = true := by kernel_rfl
  exact (show Tryz.prog.wantsStandIn t = false by simpa using List.all_eq_true.1 hall t hm)

/-- ████ THE CARD ████ -/
theorem proved : Rows.KeepLongCardSaid :=
  Claim7.holds_tied_plain_at .later [] _ _ _ _ holds (fun _ h => by cases h) (by kernel_rfl) (fun _ h => by cases h) keepLong_row_tie rfl ⟨rfl, rfl⟩ (by kernel_rfl) rfl plain (by kernel_rfl)
#print axioms proved
end Go.Proofs.YtmegpbadkojhbaaGreatDoor.keepLong
