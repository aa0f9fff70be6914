/- THE LAW KeepLasts returns true: wherever the power goes in a Save, behind a Wake and Open what is kept is what was kept ahead of it, or what was saved. No condition. -/
import Derived.Test.YtjjidjlaijpnoaaGreatDoorLE
import Derived.Test.YtjjidjlaijpnoaaGreatDoorEvFrame
import Derived.Test.YtjjidjlaijpnoaaGreatDoorEvCrc2
import Derived.Test.YtjjidjlaijpnoaaGreatDoorEvJoin2
import Derived.Test.YtjjidjlaijpnoaaGreatDoorEvMapCopy
import Derived.Test.YtjjidjlaijpnoaaGreatDoorCards
import Derived.Test.YtjjidjlaijpnoaaGreatDoorTie
import Derived.ProofKit
import Derived.OpenShut
import Derived.ShutString
import Derived.Carry
import Derived.LaidMore
import Derived.Lay
import Derived.SevenTiedAt
import Derived.Stop.Joined
namespace Go.Proofs.YtjjidjlaijpnoaaGreatDoor.keepLasts
open Go.ChangeShapes Go.WideShapes Go.ChangeAt Go.RowKit Go.Ev

theorem own : ownKnob Tryz.prog.godebug = none := by kernel_rfl
theorem laidOut : laidOutB Tryz.prog = true := by kernel_rfl
noncomputable def tab0 : Nat → Option FnE := fun f => Bool.rec (motive := fun _ => Option FnE) (Bool.rec (motive := fun _ => Option FnE) ((Tryz.prog.funcs[f]?).bind (compFn Tryz.prog f)) (some (.nat nCrc1)) (Nat.beq f 93)) (some (.nat nJoin2)) (Nat.beq f 77)
theorem tab0OK : TabOK Tryz.prog tab0 := TabOK.nat joinOK.nat (TabOK.nat natCrc_ok (TabOK.base (by kernel_rfl)))
set_option maxRecDepth 100000 in
theorem run : @Eq Nat (evP (compRC Tryz.prog) tab0 100000 100 (.func (2 * 4) []) [] H0 isTrue) (nat_lit 1) := by kernel_rfl
set_option maxRecDepth 100000 in
theorem ran (w : World) : Calls Tryz.prog 4 #[] w fun e w' => e = .returned (.bool true) ∧ Below w.heap.size w w' :=
  known (by kernel_rfl) tab0OK Tryz.func4 rfl (by kernel_rfl) run w
theorem works_ok : NatOK Tryz.prog 4 nWorks := fun args H k h => by
  match args, h with
  | [], h =>
    refine ⟨.bool true, H, CallF.of_calls Tryz.func4 rfl rfl fun base w0 rho w cargs hp hv => ?_, h⟩
    have hc : cargs = #[] := by
      simp only [VRs] at hv
      cases cargs
      simp_all
    subst hc
    exact ⟨.bool true, by simp only [VR], ran w⟩
  | _ :: _, h => exact (no_ne h).elim
noncomputable def tab : Nat → Option FnE := fun f => Bool.rec (motive := fun _ => Option FnE) (Bool.rec (motive := fun _ => Option FnE) (Bool.rec (motive := fun _ => Option FnE) (Bool.rec (motive := fun _ => Option FnE) ((Tryz.prog.funcs[f]?).bind (compFn Tryz.prog f)) (some (.nat nCopyM)) (Nat.beq f 25)) (some (.nat nWorks)) (Nat.beq f 4)) (some (.nat (nPack packL))) (Nat.beq f 60)) (some (.nat (nUnpack unpackL))) (Nat.beq f 46)
theorem tabOK : TabOK Tryz.prog tab := TabOK.nat natUnpack_ok (TabOK.nat natPack_ok (TabOK.nat works_ok (TabOK.nat copyMOK.nat (TabOK.base (by kernel_rfl)))))
theorem tab_base (f : Nat) (h : ((Nat.beq f 46 = false ∧ Nat.beq f 60 = false) ∧ Nat.beq f 4 = false) ∧ Nat.beq f 25 = false) : tab f = (Tryz.prog.funcs[f]?).bind (compFn Tryz.prog f) := by
  obtain ⟨⟨⟨h1, h2⟩, h3⟩, h4⟩ := h
  unfold tab
  rw [h1, h2, h3, h4]
theorem others : ∀ f ∈ codeFns, ((Nat.beq f 46 = false ∧ Nat.beq f 60 = false) ∧ Nat.beq f 4 = false) ∧ Nat.beq f 25 = false := by unfold codeFns; decide
theorem coded : TCode tab := TCode.over (fun f hf => tab_base f (others f hf)) codes
theorem copied : tab 25 = some (.nat nCopyM) := by
  unfold tab
  rw [show Nat.beq 25 46 = false from rfl, show Nat.beq 25 60 = false from rfl, show Nat.beq 25 4 = false from rfl, show Nat.beq 25 25 = true from rfl]
theorem worked : tab 4 = some (.nat nWorks) := by
  unfold tab
  rw [show Nat.beq 4 46 = false from rfl, show Nat.beq 4 60 = false from rfl, show Nat.beq 4 4 = true from rfl]
theorem packed : tab 60 = some (.nat (nPack packL)) := by
  unfold tab
  rw [show Nat.beq 60 46 = false from rfl, show Nat.beq 60 60 = true from rfl]
theorem unpacked : tab 46 = some (.nat (nUnpack unpackL)) := by
  unfold tab
  rw [show Nat.beq 46 46 = true from rfl]

theorem walk {w : World} {v0 v1 v2 : Value} {hs : List Hd} {us : List Nat} {bs : List Bool} (h0 : (vOf w.heap.size v0).one = true) (h1 : (vOf w.heap.size v1).one = true) (h2 : (vOf w.heap.size v2).one = true) (a0 : HsAt (adopt w) (vOf w.heap.size v0) hs) (n0 : hs.length < 9223372036854775808) (a1 : U8At (adopt w) (vOf w.heap.size v1) us) (n1 : us.length < 9223372036854775808) (a2 : KpAt (adopt w) (vOf w.heap.size v2) bs) (n2 : bs.length < 9223372036854775808) :
    Calls Tryz.prog 3 #[v0, v1, v2] w fun e w' => e = .returned (.bool true) ∧ Below w.heap.size w w' := by
  refine called_cps (by kernel_rfl) tabOK (fuel := 2000000) (depth := 0 + 10) (args := [vOf w.heap.size v0, vOf w.heap.size v1, vOf w.heap.size v2]) ?_ fun k x hx =>
    keepLasts_call (cp := compRC Tryz.prog) (fuel := 2000000) coded rfl frameOK packed unpacked worked copied rc11.1 rc11.2 (adopt_wf w) a0 n0 a1 n1 a2 n2 (by decide) 0 k x hx
  simp only [VRs]
  exact ⟨_, _, rfl, vOf_ok w v0 h0, _, _, rfl, vOf_ok w v1 h1, _, _, rfl, vOf_ok w v2 h2, rfl⟩

set_option maxRecDepth 100000 in
theorem lifted (os : Os) (started : os.Started) (H : Type) (enc : TypeId × Value → H) :
    ReturnsInHanded {} Tryz.checked os 3 .any (fun w args => (Rows.keepLastsSpec.pre enc Tryz.prog Tryz.f3 Rows.keepLastsRow.domain false w args ∧ laidMetH Tryz.prog Rows.keepLastsRow.laid w) ∧ sizedMet enc Tryz.prog Tryz.f3 (OpenSpec.ofChange Rows.keepLastsSpec) false w args)
      (Rows.keepLastsSpec.post enc Tryz.prog Tryz.f3 false true false false) := by
  refine returnsInHanded_of_change_and (C := Tryz.checked) (X := fun w _ => laidMetH Tryz.prog Rows.keepLastsRow.laid w) (fun _ _ _ hh h => h.of_heap hh) own started (by kernel_rfl) Tryz.func3
    (ChangeSpec.witness_shaped (enc := enc) (C := Tryz.checked) (os := os) (X := fun w _ => laidMetH Tryz.prog Rows.keepLastsRow.laid w) false (World.laidAll Tryz.prog os Rows.keepLastsRow.laid) #[.slice none 0 0, .slice none 0 0, .slice none 0 0] 8 (World.laidAll_os _ _ _)
      (World.shaped_of_ZipB (by kernel_rfl) (by kernel_rfl)) (by kernel_rfl) (by kernel_rfl) (by kernel_rfl)
      (by rw [MakeChecks.laidMetH_plain _ _ _ (by kernel_rfl)]; exact laidMet_laidAll _ (by kernel_rfl) (by kernel_rfl))) ?_
  intro W base args ds gs before hval0 hW hc _ hL _
  have hval : ∀ (j : Nat) t v, Tryz.f3.params[j]? = some t → args[j]? = some v → Value.okWide Tryz.prog W .any base t v := hval0
  have hW' := hW
  obtain ⟨p, q, hA0, hV, rfl, hnf, _⟩ := hW
  have hA : DataW.TrodAll enc Tryz.prog W 0 (fun _ => true) true Tryz.f3.params.toList args.toList ds p := hA0
  rw [Tryz.params3] at hA hval
  obtain ⟨v0, v1, v2, d0, d1, d2, p0, p1, p2, rfl, rfl, rfl, k0, k1, k2⟩ := trodAll_three hA
  obtain ⟨rfl, rfl⟩ := trodVars_none hV
  obtain ⟨a0, len0, cap0, rfl⟩ := okWide_slice Tryz.underlying22 (hval 0 22 v0 rfl rfl)
  obtain ⟨a1, len1, cap1, rfl⟩ := okWide_slice Tryz.underlying23 (hval 1 23 v1 rfl rfl)
  obtain ⟨a2, len2, cap2, rfl⟩ := okWide_slice Tryz.underlying24 (hval 2 24 v2 rfl rfl)
  have lt0 : ∀ x ∈ p0, x.block < W.heap.size := by obtain ⟨m, hm⟩ := k0; exact DataW.trod_lt m _ _ _ hm
  have lt1 : ∀ x ∈ p1, x.block < W.heap.size := by obtain ⟨m, hm⟩ := k1; exact DataW.trod_lt m _ _ _ hm
  have lt2 : ∀ x ∈ p2, x.block < W.heap.size := by obtain ⟨m, hm⟩ := k2; exact DataW.trod_lt m _ _ _ hm
  have nf0 : W.noneFrozen p0 := fun b off h => hnf b off (by simp [h])
  have nf1 : W.noneFrozen p1 := fun b off h => hnf b off (by simp [h])
  have nf2 : W.noneFrozen p2 := fun b off h => hnf b off (by simp [h])
  obtain ⟨one0, hs, s0, n0⟩ : (vOf W.heap.size (.slice a0 len0 cap0)).one = true ∧ ∃ hs, HsAt (adopt W) (vOf W.heap.size (.slice a0 len0 cap0)) hs ∧ hs.length < 9223372036854775808 := by
    obtain ⟨m, hm⟩ := k0
    exact hds_seen (x := (d0, p0)) Tryz.underlying22 Tryz.underlying33 (by kernel_rfl) rfl rfl rfl (by kernel_rfl) (by kernel_rfl) (by kernel_rfl) (by kernel_rfl) (by kernel_rfl) (by kernel_rfl) Tryz.underlying47 (by kernel_rfl) rfl rfl rfl (by kernel_rfl) (by kernel_rfl) (by kernel_rfl) (by kernel_rfl) (by kernel_rfl) Tryz.underlying45 rfl rfl (by kernel_rfl) (by kernel_rfl) (by kernel_rfl) (by kernel_rfl) hm nf0
  obtain ⟨one1, us, s1, n1⟩ : (vOf W.heap.size (.slice a1 len1 cap1)).one = true ∧ ∃ us, U8At (adopt W) (vOf W.heap.size (.slice a1 len1 cap1)) us ∧ us.length < 9223372036854775808 := by
    obtain ⟨m, hm⟩ := k1
    exact u8s_seen (x := (d1, p1)) Tryz.underlying23 (by kernel_rfl) (by kernel_rfl) hm nf1
  obtain ⟨one2, bs, s2, n2⟩ : (vOf W.heap.size (.slice a2 len2 cap2)).one = true ∧ ∃ bs, KpAt (adopt W) (vOf W.heap.size (.slice a2 len2 cap2)) bs ∧ bs.length < 9223372036854775808 := by
    obtain ⟨m, hm⟩ := k2
    exact kps_seen (x := (d2, p2)) Tryz.underlying24 (by kernel_rfl) (by kernel_rfl) hm nf2
  simp only [List.append_nil] at hW'
  refine (walk one0 one1 one2 s0 n0 s1 n1 s2 n2).mono fun e W' ⟨he, bel⟩ => ?_
  subst he
  exact ⟨_, rfl, _, _, _, [], _, [], hW', trodAll_mk1 (shut_bool Tryz.underlying4 _),
    trodAll_mk3 (Below.trod laidOut (by kernel_rfl) (of_decide_eq_true (by kernel_rfl)) k0 bel lt0) (Below.trod laidOut (by kernel_rfl) (of_decide_eq_true (by kernel_rfl)) k1 bel lt1) (Below.trod laidOut (by kernel_rfl) (of_decide_eq_true (by kernel_rfl)) k2 bel lt2), rfl, bel.frame _, fun h => by cases h⟩

theorem holds : Rows.KeepLastsSaid :=
  OpenClaim.holds_of_wide 3 Tryz.f3 rfl rfl rfl rfl rfl rfl rfl ⟨rfl, rfl, rfl, rfl, rfl⟩ rfl rfl rfl rfl rfl (by kernel_rfl) Tryz.func3 (by kernel_rfl)
    (of_decide_eq_true (by kernel_rfl)) (by unfold Func.isWrapper; first | (rw [if_pos (by decide +kernel)]; kernel_rfl) | (rw [if_neg (by decide +kernel)]; exact ⟨rfl, rfl⟩))
    (fun os started H enc _ => lifted os started H enc)

theorem plain (f : FuncId) (fn : Func) (hf : Tryz.pinned.checked.prog.funcNamed "stemma/stemmalaw16.KeepLasts" = some f) (hfn : Tryz.pinned.checked.prog.funcs[f]? = some fn) :
    false = Tryz.pinned.checked.prog.looks [] ∧ ∀ (j : Nat) t, fn.params[j]? = some t → Tryz.pinned.checked.prog.wantsStandIn t = false := by
  obtain rfl : f = 3 := Option.some.inj ((show Tryz.prog.funcNamed "stemma/stemmalaw16.KeepLasts" = some 3 by kernel_rfl).symm.trans hf) |>.symm
  obtain rfl : fn = Tryz.f3 := (Option.some.inj (Tryz.func3.symm.trans hfn)).symm
  refine ⟨by kernel_rfl, fun j t ht => ?_⟩
  rw [Tryz.params3] at ht
  have hm : t ∈ [22, 23, 24] := by simpa using Array.mem_of_getElem? ht
  have hall : ([22, 23, 24].all fun u => !Tryz.prog.wantsStandIn u) = true := by kernel_rfl
  exact (show Tryz.prog.wantsStandIn t = false by simpa using List.all_eq_true.1 hall t hm)

/-- ████ THE CARD ████ -/
theorem proved : Rows.KeepLastsCardSaid :=
  Claim7.holds_tied_plain_at .later [] _ _ _ _ holds (fun _ h => by cases h) (by kernel_rfl) (fun _ h => by cases h) keepLasts_row_tie rfl ⟨rfl, rfl⟩ (by kernel_rfl) rfl plain (by kernel_rfl)
#print axioms proved
end Go.Proofs.YtjjidjlaijpnoaaGreatDoor.keepLasts
