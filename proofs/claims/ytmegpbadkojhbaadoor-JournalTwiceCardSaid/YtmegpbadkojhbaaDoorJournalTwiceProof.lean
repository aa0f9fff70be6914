/- THE LAW JournalTwice returns true: of three Commits the second one is cut, and the third one is answered as if nothing had been. No condition. -/
import Derived.Test.YtmegpbadkojhbaaDoorLT
import Derived.Test.YtmegpbadkojhbaaDoorEvFrame
import Derived.Test.YtmegpbadkojhbaaDoorEvMaps
import Derived.Test.YtmegpbadkojhbaaDoorCards
import Derived.Test.YtmegpbadkojhbaaDoorTie
import Derived.ProofKit
import Derived.OpenShut
import Derived.ShutString
import Derived.Carry
import Derived.LaidMore
import Derived.Lay
import Derived.SevenTiedAt
import Derived.Stop.Joined
namespace Go.Proofs.YtmegpbadkojhbaaDoor.journalTwice
open Go.ChangeShapes Go.WideShapes Go.ChangeAt Go.RowKit Go.Ev

theorem own : ownKnob Tryd.prog.godebug = none := by kernel_rfl
theorem laidOut : laidOutB Tryd.prog = true := by kernel_rfl
noncomputable def tab : Nat → Option FnE := fun f => Bool.rec (motive := fun _ => Option FnE) (Bool.rec (motive := fun _ => Option FnE) (Bool.rec (motive := fun _ => Option FnE) (Bool.rec (motive := fun _ => Option FnE) ((Tryd.prog.funcs[f]?).bind (compFn Tryd.prog f)) (some (.nat nCopyM)) (Nat.beq f 40)) (some (.nat nClone)) (Nat.beq f 34)) (some (.nat (nPack packL))) (Nat.beq f 47)) (some (.nat (nUnpack unpackL))) (Nat.beq f 42)
theorem tabOK : TabOK Tryd.prog tab := TabOK.nat natUnpack_ok (TabOK.nat natPack_ok (TabOK.nat cloneOK.nat (TabOK.nat copyMOK.nat (TabOK.base (by kernel_rfl)))))
theorem tab_base (f : Nat) (h : ((Nat.beq f 42 = false ∧ Nat.beq f 47 = false) ∧ Nat.beq f 34 = false) ∧ Nat.beq f 40 = false) : tab f = (Tryd.prog.funcs[f]?).bind (compFn Tryd.prog f) := by
  obtain ⟨⟨⟨h1, h2⟩, h3⟩, h4⟩ := h
  unfold tab
  rw [h1, h2, h3, h4]
theorem others : ∀ f ∈ codeFns, ((Nat.beq f 42 = false ∧ Nat.beq f 47 = false) ∧ Nat.beq f 34 = false) ∧ Nat.beq f 40 = false := by unfold codeFns; decide
theorem copied : tab 40 = some (.nat nCopyM) := by
    unfold tab
    rw [show Nat.beq 40 42 = false from rfl, show Nat.beq 40 47 = false from rfl, show Nat.beq 40 34 = false from rfl, show Nat.beq 40 40 = true from rfl]
theorem tj : TJ tab packL unpackL where
  T := TCode.over (fun f hf => tab_base f (others f hf)) codes
  hc := by
    unfold tab
    rw [show Nat.beq 34 42 = false from rfl, show Nat.beq 34 47 = false from rfl, show Nat.beq 34 34 = true from rfl]
  F := frameOK
  hp := by
    unfold tab
    rw [show Nat.beq 47 42 = false from rfl, show Nat.beq 47 47 = true from rfl]
  hu := by
    unfold tab
    rw [show Nat.beq 42 42 = true from rfl]

theorem walk {w : World} {v0 v1 a b : Value} {n m : Int} {psa psc ps : List Pt} {bs : List Bool} (h0 : (vOf w.heap.size v0).one = true) (hva : PsAt (adopt w) (vOf w.heap.size v0) psa) (hna : psa.length < 9223372036854775808) (h0' : (vOf w.heap.size v1).one = true) (hvc : PsAt (adopt w) (vOf w.heap.size v1) psc) (hnc : psc.length < 9223372036854775808)
    (w0 : (Lit.int .u8 n).wf = true) (w1 : (Lit.int .u8 m).wf = true) (h1 : (vOf w.heap.size a).one = true) (hv1 : PsAt (adopt w) (vOf w.heap.size a) ps) (hn1 : ps.length < 9223372036854775808) (h2 : (vOf w.heap.size b).one = true) (hc : CapOK (vOf w.heap.size b)) (hk : KpAt (adopt w) (vOf w.heap.size b) bs) (hkb : bs.length < 9223372036854775808) :
    Calls Tryd.prog 5 #[v0, v1, .agg #[a, .int .u8 n, .int .u8 m, b]] w fun e w' => e = .returned (.bool true) ∧ Below w.heap.size w w' := by
  refine called_cps (by kernel_rfl) tabOK (fuel := 2000000) (depth := 0 + 10) (args := [vOf w.heap.size v0, vOf w.heap.size v1, .agg [vOf w.heap.size a, .int 4 (n % (2 ^ IntKind.u8.bits : Nat)).toNat, .int 4 (m % (2 ^ IntKind.u8.bits : Nat)).toNat, vOf w.heap.size b]]) ?_ fun k x hx =>
    journalTwice_call (cp := compRC Tryd.prog) (fuel := 2000000) tj copied rc20.1 rc20.2 (adopt_wf w) hva hna hvc hnc hv1 hn1 hk hc hkb u8_lt u8_lt (by decide) 0 k x hx
  have i0 := vOf_ok w (.int .u8 n) (by rw [vOf_int w0]; rfl)
  have i1 := vOf_ok w (.int .u8 m) (by rw [vOf_int w1]; rfl)
  rw [vOf_int w0] at i0
  simp only [VR] at i0
  rw [vOf_int w1] at i1
  simp only [VR] at i1
  simp only [VRs, VR]
  exact ⟨_, _, rfl, vOf_ok w v0 h0, _, _, rfl, vOf_ok w v1 h0', _, _, rfl, ⟨_, rfl, _, _, rfl, vOf_ok w a h1, _, _, rfl, i0, _, _, rfl, i1, _, _, rfl, vOf_ok w b h2, rfl⟩, rfl⟩

set_option maxRecDepth 100000 in
theorem lifted (os : Os) (started : os.Started) (H : Type) (enc : TypeId × Value → H) :
    ReturnsInHanded {} Tryd.checked os 5 .any (fun w args => (Rows.journalTwiceSpec.pre enc Tryd.prog Tryd.f5 Rows.journalTwiceRow.domain false w args ∧ laidMetH Tryd.prog Rows.journalTwiceRow.laid w) ∧ sizedMet enc Tryd.prog Tryd.f5 (OpenSpec.ofChange Rows.journalTwiceSpec) false w args)
      (Rows.journalTwiceSpec.post enc Tryd.prog Tryd.f5 false true false false) := by
  refine returnsInHanded_of_change_and (C := Tryd.checked) (X := fun w _ => laidMetH Tryd.prog Rows.journalTwiceRow.laid w) (fun _ _ _ hh h => h.of_heap hh) own started (by kernel_rfl) Tryd.func5
    (ChangeSpec.witness_shaped (enc := enc) (C := Tryd.checked) (os := os) (X := fun w _ => laidMetH Tryd.prog Rows.journalTwiceRow.laid w) false (World.laidAll Tryd.prog os Rows.journalTwiceRow.laid) #[.slice none 0 0, .slice none 0 0, .agg #[.slice none 0 0, .int .u8 0, .int .u8 0, .slice none 0 0]] 8 (World.laidAll_os _ _ _)
      (World.shaped_of_ZipB (by kernel_rfl) (by kernel_rfl)) (by kernel_rfl) (by kernel_rfl) (by kernel_rfl)
      (by rw [MakeChecks.laidMetH_plain _ _ _ (by kernel_rfl)]; exact laidMet_laidAll _ (by kernel_rfl) (by kernel_rfl))) ?_
  intro W base args ds gs before hval0 hW hc _ hL _
  have hval : ∀ (j : Nat) t v, Tryd.f5.params[j]? = some t → args[j]? = some v → Value.okWide Tryd.prog W .any base t v := hval0
  have hW' := hW
  obtain ⟨p, q, hA0, hV, rfl, hnf, _⟩ := hW
  have hA : DataW.TrodAll enc Tryd.prog W 0 (fun _ => true) true Tryd.f5.params.toList args.toList ds p := hA0
  rw [Tryd.params5] at hA hval
  obtain ⟨v0, v1, v2, d0, d1, d2, p0, p1, p2, rfl, rfl, rfl, k0, k1, k2⟩ := trodAll_three hA
  obtain ⟨rfl, rfl⟩ := trodVars_none hV
  obtain ⟨a0, len0, cap0, rfl⟩ := okWide_slice Tryd.underlying23 (hval 0 23 v0 rfl rfl)
  obtain ⟨a1, len1, cap1, rfl⟩ := okWide_slice Tryd.underlying23 (hval 1 23 v1 rfl rfl)
  obtain ⟨cs, rfl, _⟩ := okWide_struct Tryd.underlying39 (hval 2 39 v2 rfl rfl)
  have lt0 : ∀ x ∈ p0, x.block < W.heap.size := by obtain ⟨m, hm⟩ := k0; exact DataW.trod_lt m _ _ _ hm
  have lt1 : ∀ x ∈ p1, x.block < W.heap.size := by obtain ⟨m, hm⟩ := k1; exact DataW.trod_lt m _ _ _ hm
  have lt2 : ∀ x ∈ p2, x.block < W.heap.size := by obtain ⟨m, hm⟩ := k2; exact DataW.trod_lt m _ _ _ hm
  have nf0 : W.noneFrozen p0 := fun b off h => hnf b off (by simp [h])
  have nf1 : W.noneFrozen p1 := fun b off h => hnf b off (by simp [h])
  have nf2 : W.noneFrozen p2 := fun b off h => hnf b off (by simp [h])
  obtain ⟨one0, psa, hpsa, hpa⟩ : (vOf W.heap.size (.slice a0 len0 cap0)).one = true ∧ ∃ ps, PsAt (adopt W) (vOf W.heap.size (.slice a0 len0 cap0)) ps ∧ ps.length < 9223372036854775808 := by
    obtain ⟨m, hm⟩ := k0
    exact ps_seen Tryd.underlying23 Tryd.underlying65 (by kernel_rfl) rfl rfl rfl (by kernel_rfl) (by kernel_rfl) (by kernel_rfl) (by kernel_rfl) (by kernel_rfl) (by kernel_rfl) hm nf0
  obtain ⟨one0', psc, hpsc, hpc⟩ : (vOf W.heap.size (.slice a1 len1 cap1)).one = true ∧ ∃ ps, PsAt (adopt W) (vOf W.heap.size (.slice a1 len1 cap1)) ps ∧ ps.length < 9223372036854775808 := by
    obtain ⟨m, hm⟩ := k1
    exact ps_seen Tryd.underlying23 Tryd.underlying65 (by kernel_rfl) rfl rfl rfl (by kernel_rfl) (by kernel_rfl) (by kernel_rfl) (by kernel_rfl) (by kernel_rfl) (by kernel_rfl) hm nf1
  obtain ⟨va, vb, n, m, ps, bs, hcs, w0, w1, one1, s1, s2, one2, hcap, s3, s4⟩ : ∃ (a b : Value) (n m : Int) (ps : List Pt) (bs : List Bool), cs.toList = [a, .int .u8 n, .int .u8 m, b] ∧ (Lit.int .u8 n).wf = true ∧ (Lit.int .u8 m).wf = true ∧ (vOf W.heap.size a).one = true ∧ PsAt (adopt W) (vOf W.heap.size a) ps ∧ ps.length < 9223372036854775808 ∧
      (vOf W.heap.size b).one = true ∧ CapOK (vOf W.heap.size b) ∧ KpAt (adopt W) (vOf W.heap.size b) bs ∧ bs.length < 9223372036854775808 := by
    obtain ⟨m, hm⟩ := k2
    exact last_seen Tryd.underlying39 rfl rfl rfl (by kernel_rfl) (by kernel_rfl) (by kernel_rfl) (by kernel_rfl) Tryd.underlying23 Tryd.underlying65 (by kernel_rfl) rfl rfl rfl (by kernel_rfl) (by kernel_rfl) (by kernel_rfl) (by kernel_rfl) (by kernel_rfl) (by kernel_rfl)
      Tryd.underlying36 (by kernel_rfl) Tryd.underlying5 Tryd.underlying37 (by kernel_rfl) Tryd.underlying4 hm nf2
  obtain rfl : cs = #[va, .int .u8 n, .int .u8 m, vb] := by rw [← Array.toArray_toList (xs := cs), hcs]
  simp only [List.append_nil] at hW'
  refine (walk one0 hpsa hpa one0' hpsc hpc w0 w1 one1 s1 s2 one2 hcap s3 s4).mono fun e W' ⟨he, bel⟩ => ?_
  subst he
  exact ⟨_, rfl, _, _, _, [], _, [], hW', trodAll_mk1 (shut_bool Tryd.underlying4 _),
    trodAll_mk3 (Below.trod laidOut (by kernel_rfl) (of_decide_eq_true (by kernel_rfl)) k0 bel lt0) (Below.trod laidOut (by kernel_rfl) (of_decide_eq_true (by kernel_rfl)) k1 bel lt1) (Below.trod laidOut (by kernel_rfl) (of_decide_eq_true (by kernel_rfl)) k2 bel lt2), rfl, bel.frame _, fun h => by cases h⟩

theorem holds : Rows.JournalTwiceSaid :=
  OpenClaim.holds_of_wide 5 Tryd.f5 rfl rfl rfl rfl rfl rfl rfl ⟨rfl, rfl, rfl, rfl, rfl⟩ rfl rfl rfl rfl rfl (by kernel_rfl) Tryd.func5 (by kernel_rfl)
    (of_decide_eq_true (by kernel_rfl)) (by unfold Func.isWrapper; first | (rw [if_pos (by decide +kernel)]; kernel_rfl) | (rw [if_neg (by decide +kernel)]; exact ⟨rfl, rfl⟩))
    (fun os started H enc _ => lifted os started H enc)

theorem plain (f : FuncId) (fn : Func) (hf : Tryd.pinned.checked.prog.funcNamed "stemma/stemmalaw05.JournalTwice" = some f) (hfn : Tryd.pinned.checked.prog.funcs[f]? = some fn) :
    true = Tryd.pinned.checked.prog.looks [] ∧ ∀ (j : Nat) t, fn.params[j]? = some t → Tryd.pinned.checked.prog.wantsStandIn t = false := by
  obtain rfl : f = 5 := Option.some.inj ((show Tryd.prog.funcNamed "stemma/stemmalaw05.JournalTwice" = some 5 by kernel_rfl).symm.trans hf) |>.symm
  obtain rfl : fn = Tryd.f5 := (Option.some.inj (Tryd.func5.symm.trans hfn)).symm
  refine ⟨by kernel_rfl, fun j t ht => ?_⟩
  rw [Tryd.params5] at ht
  have hm : t ∈ [23, 39] := by simpa using Array.mem_of_getElem? ht
  have hall : ([23, 39].all fun u => !Tryd.prog.wantsStandIn u) = true := by kernel_rfl
  exact (show Tryd.prog.wantsStandIn t = false by simpa using List.all_eq_true.1 hall t hm)

/-- ████ THE CARD ████ -/
theorem proved : Rows.JournalTwiceCardSaid :=
  Claim7.holds_tied_plain_at .later [] _ _ _ _ holds (fun _ h => by cases h) (by kernel_rfl) (fun _ h => by cases h) journalTwice_row_tie rfl ⟨rfl, rfl⟩ (by kernel_rfl) rfl plain (by kernel_rfl)
#print axioms proved
end Go.Proofs.YtmegpbadkojhbaaDoor.journalTwice
