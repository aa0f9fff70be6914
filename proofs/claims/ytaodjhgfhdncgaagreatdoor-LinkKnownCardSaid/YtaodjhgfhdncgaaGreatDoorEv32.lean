/- Functions that are taken by what is known of them. -/
import Derived.Test.YtaodjhgfhdncgaaGreatDoorEv31
set_option linter.unusedSectionVars false
set_option linter.unusedVariables false
set_option linter.unusedSimpArgs false
namespace Go.Ev
open Go.RowKit

section
variable {P : Program} {base : Nat} {w0 w w' : World} {rho : Nat → Option Nat} {H : Heap}

/-- A call that leaves all as it was, and perhaps new blocks of its own. -/
theorem PR.called (h : PR P base w0 rho H w) (hb : Below w.heap.size w w') : PR P base w0 rho H w' ∧ Ext rho H w rho H w' := by
  have hE : Ext rho H w rho H w' := ⟨Nat.le_refl _, Nat.le_refl _, hb.size, fun _ _ _ => ⟨rfl, rfl⟩, fun _ _ _ h => h, fun _ _ h _ => h, fun _ _ h => h, fun b c hb h1 => absurd (h.lt b c h1) (by omega), fun c hc _ => hb.block c hc, fun b h1 => ⟨h1, rfl, fun c hc => hb.block c (h.dom b c hc).2.2.1⟩, fun c cs e fr h1 => ⟨cs, e, fr, (hb.block c (Array.getElem?_eq_some_iff.1 h1).1).trans h1, rfl⟩⟩
  refine ⟨⟨h.below.trans (hb.mono h.base_le), Nat.le_trans h.base_le hb.size, h.wn, fun b c hr => ?_, h.inj, fun b c hr => ?_, h.out⟩, hE⟩
  · obtain ⟨h1, h2, h3, h4⟩ := h.dom b c hr
    exact ⟨h1, h2, Nat.lt_of_lt_of_le h3 hb.size, h4⟩
  · obtain ⟨o, h1, h2⟩ := h.blk b c hr
    exact ⟨o, (hb.block c (h.dom b c hr).2.2.1).trans h1, h2.mono hE.mu⟩

theorem CallF.of_calls {f : FuncId} {fn : Func} {c : Code} {args : List V} {v : V} (hf : P.funcs[f]? = some fn) (hb : fn.body = some c) (hn : (fn.name == "runtime.NumGoroutine") = false)
    (h : ∀ (base : Nat) (w0 : World) (rho : Nat → Option Nat) (w : World) (cargs : Array Value), PR P base w0 rho H w → VRs (mu rho H w) args cargs.toList → ∃ cv, VR (mu rho H w) v cv ∧ Calls P f cargs w fun e w' => e = .returned cv ∧ Below w.heap.size w w') :
    CallF P f args H v H := fun base w0 rho w cargs hp ha => by
  obtain ⟨cv, h1, h2⟩ := h base w0 rho w cargs hp ha
  refine ⟨run_callFunc hf hb hn _ _, ?_⟩
  have h3 : CallsIn (WF none) 0 P f cargs w fun e w' => e = .returned cv ∧ Below w.heap.size w w' := callsIn_wide.2 h2
  refine h3.mono ?_
  rintro e w' ⟨rfl, h4⟩
  obtain ⟨h5, h6⟩ := hp.called h4
  exact ⟨cv, rfl, rho, VR.mono h6.mu v cv h1, h5, h6⟩

theorem vrs_one_str {m : M} {l n : Nat} {cargs : Array Value} (h : VRs m [.str l n] cargs.toList) : cargs = #[.string ⟨(sbytes l n).toArray⟩] ∧ n < 256 ^ l := by
  simp only [VRs, VR] at h
  obtain ⟨c, r, h1, ⟨rfl, h2⟩, rfl⟩ := h
  exact ⟨by apply Array.ext'; exact h1, h2⟩
end

/-! ### the sum -/
theorem toI_nat {k : IntKind} {n : Nat} (hk : k.signed = false) (h : n < kMod k) : toI k n = n := by
  unfold toI IntKind.wrap kMod at *
  rw [hk]
  simp only [Bool.false_and, Bool.false_eq_true, if_false]
  have : (n : Int) % (2 ^ k.bits : Nat) = n := Int.emod_eq_of_lt (by omega) (by exact_mod_cast h)
  simpa using this

noncomputable def nCrc1 (args : List V) (H : Heap) (k : K) : R := List.rec (motive := fun _ => R) (no 0) (fun x r _ => List.rec (motive := fun _ => R) (vStr 0 x fun l n => ifB (Nat.ble l 16777216) (crcLoop l n 4294967295 fun c => forceN (Nat.sub 4294967295 c) fun r => k (.int 6 r) H) (no 0)) (fun _ _ _ => no 0) r) args
theorem nCrc1_ok {args : List V} {H : Heap} {k : K} (h : nCrc1 args H k = 1) : ∃ l n, args = [.str l n] ∧ l ≤ 16777216 ∧ crcLoop l n 4294967295 (fun c => forceN (Nat.sub 4294967295 c) fun r => k (.int 6 r) H) = 1 := by
  match args, h with
  | [], h => exact (no_ne h).elim
  | [x], h =>
    obtain ⟨l, n, rfl, h1⟩ := vStr_ok (id := 0) (x := x) (k := fun l n => ifB (Nat.ble l 16777216) (crcLoop l n 4294967295 fun c => forceN (Nat.sub 4294967295 c) fun r => k (.int 6 r) H) (no 0)) h
    obtain ⟨h2, h3⟩ := ifB_no h1
    exact ⟨l, n, rfl, ble_of h2, h3⟩
  | x :: y :: r, h => exact (no_ne h).elim

/-! ### joining texts -/
/-- Texts one behind the other, a text between. -/
def joinB (sep : List UInt8) : List (List UInt8) → List UInt8
  | [] => []
  | [x] => x
  | x :: y :: r => x ++ (sep ++ joinB sep (y :: r))
theorem shl8 (n l : Nat) : Nat.shiftLeft n (Nat.mul 8 l) = n * 256 ^ l := by
  show n <<< (8 * l) = _
  rw [Nat.shiftLeft_eq, Nat.pow_mul]
theorem str_cat {a b n m : Nat} (hn : n < 256 ^ a) (hm : m < 256 ^ b) : sbytes (a + b) (n + m * 256 ^ a) = sbytes a n ++ sbytes b m ∧ n + m * 256 ^ a < 256 ^ (a + b) := by
  refine ⟨by rw [Nat.mul_comm]; exact sbytes_append a b n m hn, ?_⟩
  have h1 : (m + 1) * 256 ^ a ≤ 256 ^ b * 256 ^ a := Nat.mul_le_mul_right _ hm
  rw [Nat.pow_add, Nat.mul_comm (256 ^ a)]
  rw [Nat.add_mul, Nat.one_mul] at h1
  omega
theorem joinL_ok {sl sn : Nat} (hs : sn < 256 ^ sl) : ∀ {l : List V} {k : Nat → Nat → R}, joinL sl sn l k = 1 → ∃ xs : List (Nat × Nat), l = xs.map (fun p => V.str p.1 p.2) ∧ ∃ tl tn, k tl tn = 1 ∧ ((∀ p ∈ xs, p.2 < 256 ^ p.1) → sbytes tl tn = joinB (sbytes sl sn) (xs.map fun p => sbytes p.1 p.2) ∧ tn < 256 ^ tl)
  | [], k, h => ⟨[], rfl, 0, 0, h, fun _ => ⟨rfl, by simp⟩⟩
  | [v], k, h => by
    have h' : vStr 0 v (fun l n => k l n) = 1 := h
    obtain ⟨l, n, rfl, h1⟩ := vStr_ok h'
    exact ⟨[(l, n)], rfl, l, n, h1, fun hx => ⟨rfl, hx (l, n) (by simp)⟩⟩
  | v :: u :: r, k, h => by
    have h' : vStr 0 v (fun l n => joinL sl sn (u :: r) fun rl rn => forceN (Nat.add l (Nat.add sl rl)) fun tl => forceN (Nat.add n (Nat.shiftLeft (Nat.add sn (Nat.shiftLeft rn (Nat.mul 8 sl))) (Nat.mul 8 l))) fun tn => k tl tn) = 1 := h
    obtain ⟨l, n, rfl, h1⟩ := vStr_ok h'
    obtain ⟨xs, h2, rl, rn, h3, h4⟩ := joinL_ok hs h1
    rw [forceN_eq, forceN_eq, shl8, shl8] at h3
    refine ⟨(l, n) :: xs, by rw [h2]; rfl, _, _, h3, fun hx => ?_⟩
    obtain ⟨h5, h6⟩ := h4 fun p hp => hx p (List.mem_cons_of_mem _ hp)
    have hn : n < 256 ^ l := hx (l, n) (List.mem_cons_self ..)
    obtain ⟨c1, c2⟩ := str_cat hs h6
    obtain ⟨c3, c4⟩ := str_cat hn c2
    refine ⟨?_, c4⟩
    refine c3.trans ?_
    rw [c1, h5]
    cases xs with
    | nil => cases h2
    | cons p xs => rfl

/-- strings.Join. -/
noncomputable def nJoin2 (args : List V) (H : Heap) (k : K) : R := List.rec (motive := fun _ => R) (no 0) (fun x r _ => List.rec (motive := fun _ => R) (no 0) (fun s r2 _ => List.rec (motive := fun _ => R)
  (vStr 0 s fun sl sn => ifB (Nat.blt sn (Nat.pow 256 sl)) (vSliceN 0 x (fun b o n _ _ => ifB (Nat.ble n 16777216) (ifB (Nat.beq n 0) (k (.str 0 0) H) (loadN 0 H b o n fun l => joinL sl sn l fun tl tn => ifB (Nat.ble tl 16777216) (k (.str tl tn) H) (no 0))) (no 0)) (k (.str 0 0) H)) (no 0)) (fun _ _ _ => no 0) r2) r) args
theorem nJoin2_ok {args : List V} {H : Heap} {k : K} (h : nJoin2 args H k = 1) : ∃ x sl sn, args = [x, .str sl sn] ∧ sn < 256 ^ sl ∧ vSliceN 0 x (fun b o n _ _ => ifB (Nat.ble n 16777216) (ifB (Nat.beq n 0) (k (.str 0 0) H) (loadN 0 H b o n fun l => joinL sl sn l fun tl tn => ifB (Nat.ble tl 16777216) (k (.str tl tn) H) (no 0))) (no 0)) (k (.str 0 0) H) = 1 := by
  match args, h with
  | [], h => exact (no_ne h).elim
  | [x], h => exact (no_ne h).elim
  | [x, s], h =>
    obtain ⟨sl, sn, rfl, h1⟩ := vStr_ok (id := 0) (x := s) (k := fun sl sn => ifB (Nat.blt sn (Nat.pow 256 sl)) (vSliceN 0 x (fun b o n _ _ => ifB (Nat.ble n 16777216) (ifB (Nat.beq n 0) (k (.str 0 0) H) (loadN 0 H b o n fun l => joinL sl sn l fun tl tn => ifB (Nat.ble tl 16777216) (k (.str tl tn) H) (no 0))) (no 0)) (k (.str 0 0) H)) (no 0)) h
    obtain ⟨h2, h3⟩ := ifB_no h1
    exact ⟨x, sl, sn, rfl, blt_of h2, h3⟩
  | x :: y :: z :: r, h => exact (no_ne h).elim

/-- What is asked of strings.Join's contract. -/
structure JoinOK (P : Program) (f : FuncId) : Prop where
  hfn : ∃ fn c, P.funcs[f]? = some fn ∧ fn.body = some c ∧ (fn.name == "runtime.NumGoroutine") = false
  hnone : ∀ (a : Option Addr) (c : Nat) (sep : ByteArray) (w : World), Calls P f #[.slice a 0 c, .string sep] w fun e w' => e = .returned (.string ⟨#[]⟩) ∧ w' = w
  hmany : ∀ (bk o c : Nat) (xs : List ByteArray) (sep : ByteArray) (w : World), (∀ (j : Nat) x, xs[j]? = some x → w.cell? ⟨bk, o + j, none⟩ = some (.string x)) → bk < w.heap.size → xs.length ≤ 140737488355328 → xs.length ≤ c →
    (joinB sep.data.toList (xs.map (·.data.toList))).length ≤ 140737488355328 → Calls P f #[.slice (some ⟨bk, o, none⟩) xs.length c, .string sep] w fun e w' => e = .returned (.string ⟨(joinB sep.data.toList (xs.map (·.data.toList))).toArray⟩) ∧ Below w.heap.size w w'

theorem JoinOK.nat {P : Program} {f : FuncId} (hj : JoinOK P f) : NatOK P f nJoin2 := fun args H k h => by
  obtain ⟨x, sl, sn, rfl, hs, h1⟩ := nJoin2_ok h
  obtain ⟨fn, c, hf, hb, hn⟩ := hj.hfn
  have empty : ∀ (x : V), (∀ m cv, VR m x cv → ∃ a c, cv = .slice a 0 c) → CallF P f [x, .str sl sn] H (.str 0 0) H := fun x hx =>
    CallF.of_calls hf hb hn fun base w0 rho w cargs hp hv => by
      simp only [VRs] at hv
      obtain ⟨c1, r1, e1, v1, c2, r2, rfl, v2, rfl⟩ := hv
      obtain ⟨a, cp, rfl⟩ := hx _ _ v1
      simp only [VR] at v2
      obtain ⟨rfl, _⟩ := v2
      have hc : cargs = #[.slice a 0 cp, .string ⟨(sbytes sl sn).toArray⟩] := by apply Array.ext'; exact e1
      subst hc
      refine ⟨.string ⟨#[]⟩, by simp only [VR]; exact ⟨rfl, by decide⟩, (hj.hnone a cp _ w).mono ?_⟩
      rintro e w' ⟨rfl, rfl⟩
      exact ⟨rfl, Below.refl _ _⟩
  rcases vSliceN_ok h1 with ⟨b, o, n, cp, sz, rfl, h2⟩ | ⟨rfl, h2⟩
  · obtain ⟨h3, h4⟩ := ifB_no h2
    rcases ifB_or h4 with ⟨h5, h6⟩ | ⟨h5, h6⟩
    · have := beq_of h5
      subst this
      exact ⟨_, H, empty _ (fun m cv hv => by simp only [VR] at hv; obtain ⟨c, cap, o', rfl, _⟩ := hv; exact ⟨_, _, rfl⟩), h6⟩
    · obtain ⟨row, h7, h8, h9⟩ := loadN_ok h6
      have hn0 : n ≠ 0 := by
        rintro rfl
        cases h5
      obtain ⟨xs, h10, tl, tn, h11, h12⟩ := joinL_ok hs h9
      obtain ⟨h13, h14⟩ := ifB_no h11
      have htl := ble_of h13
      have hlen : xs.length = n := by
        have := congrArg List.length h10
        simp at this
        omega
      refine ⟨_, H, CallF.of_calls hf hb hn fun base w0 rho w cargs hp hv => ?_, h14⟩
      simp only [VRs] at hv
      obtain ⟨c1, r1, e1, v1, c2, r2, rfl, v2, rfl⟩ := hv
      simp only [VR] at v1 v2
      obtain ⟨c, cap, o', rfl, hm, hcap, hcp, ho⟩ := v1
      obtain ⟨rfl, _⟩ := v2
      have hc : cargs = #[.slice (some ⟨c, o', none⟩) n cap, .string ⟨(sbytes sl sn).toArray⟩] := by apply Array.ext'; exact e1
      subst hc
      have ho' : o' = o := by
        rcases ho with h | h
        · exact h
        · omega
      subst ho'
      have hrho := hp.rho_of hm h7
      have hcell : ∀ j p, xs[j]? = some p → ∃ cv, w.cell? ⟨c, o' + j, none⟩ = some cv ∧ VR (mu rho H w) (.str p.1 p.2) cv := fun j p hj => by
        have hrow : row[o' + j]? = some (.str p.1 p.2) := by
          have h15 : ((row.drop o').take n)[j]? = some (.str p.1 p.2) := by rw [h10, List.getElem?_map, hj]; rfl
          rw [List.getElem?_take] at h15
          split at h15
          · simpa using h15
          · cases h15
        obtain ⟨cv, g1, g2, _⟩ := hp.cell hrho h7 hrow
        exact ⟨cv, g1, g2⟩
      have hok : ∀ p ∈ xs, p.2 < 256 ^ p.1 := fun p hp' => by
        obtain ⟨j, hj, rfl⟩ := List.mem_iff_getElem.1 hp'
        obtain ⟨cv, _, g2⟩ := hcell j _ (List.getElem?_eq_getElem hj)
        simp only [VR] at g2
        exact g2.2
      obtain ⟨h16, h17⟩ := h12 hok
      have hmap : ((xs.map fun p => (⟨(sbytes p.1 p.2).toArray⟩ : ByteArray)).map (·.data.toList)) = xs.map fun p => sbytes p.1 p.2 := by
        rw [List.map_map]
        exact List.map_congr_left fun p _ => rfl
      have hcall := hj.hmany c o' cap (xs.map fun p => (⟨(sbytes p.1 p.2).toArray⟩ : ByteArray)) ⟨(sbytes sl sn).toArray⟩ w (fun j x hx => by
          rw [List.getElem?_map] at hx
          obtain ⟨p, hp', rfl⟩ := Option.map_eq_some_iff.1 hx
          obtain ⟨cv, g1, g2⟩ := hcell j p hp'
          simp only [VR] at g2
          rw [g1, g2.1]) (hp.dom _ _ hrho).2.2.1 (by rw [List.length_map, hlen]; have := ble_of h3; omega) (by rw [List.length_map, hlen]; exact hcap) (by rw [hmap, ← h16, sbytes_length]; omega)
      rw [hmap, ← h16, List.length_map, hlen] at hcall
      exact ⟨_, by simp only [VR]; exact ⟨trivial, h17⟩, hcall⟩
  · exact ⟨_, H, empty _ (fun m cv hv => by simp only [VR] at hv; exact ⟨_, _, hv⟩), h2⟩

/-! ### copying an empty map -/
/-- maps.Copy, where there is nothing to be copied. -/
noncomputable def nCopy0 (args : List V) (H : Heap) (k : K) : R := List.rec (motive := fun _ => R) (no 0) (fun x r _ => List.rec (motive := fun _ => R) (no 0) (fun s r2 _ => List.rec (motive := fun _ => R)
  (vMap 0 x fun _ => vMap 0 s fun b => hGet H b fun bl => bMap 0 bl fun es => List.rec (motive := fun _ => R) (k (.tup []) H) (fun _ _ _ => no 0) es) (fun _ _ _ => no 0) r2) r) args
theorem nCopy0_ok {args : List V} {H : Heap} {k : K} (h : nCopy0 args H k = 1) : ∃ a b, args = [.map a, .map b] ∧ H.get b = .map [] ∧ k (.tup []) H = 1 := by
  match args, h with
  | [], h => exact (no_ne h).elim
  | [x], h => exact (no_ne h).elim
  | [x, s], h =>
    obtain ⟨a, rfl, h1⟩ := vMap_ok (id := 0) (x := x) (k := fun _ => vMap 0 s fun b => hGet H b fun bl => bMap 0 bl fun es => List.rec (motive := fun _ => R) (k (.tup []) H) (fun _ _ _ => no 0) es) h
    obtain ⟨b, rfl, h2⟩ := vMap_ok h1
    rw [hGet_eq] at h2
    obtain ⟨es, h3, h4⟩ := bMap_ok h2
    cases es with
    | nil => exact ⟨a, b, rfl, h3, h4⟩
    | cons p es => exact (no_ne h4).elim
  | x :: y :: z :: r, h => exact (no_ne h).elim
structure CopyOK (P : Program) (f : FuncId) : Prop where
  hfn : ∃ fn c, P.funcs[f]? = some fn ∧ fn.body = some c ∧ (fn.name == "runtime.NumGoroutine") = false
  hempty : ∀ (bd bs clock : Nat) (w : World), w.heap[bs]? = some (.map #[] clock) → Calls P f #[.map (some bd), .map (some bs)] w fun e w' => e = .returned (.tuple #[]) ∧ Below w.heap.size w w'
theorem CopyOK.nat {P : Program} {f : FuncId} (hj : CopyOK P f) : NatOK P f nCopy0 := fun args H k h => by
  obtain ⟨a, b, rfl, h1, h2⟩ := nCopy0_ok h
  obtain ⟨fn, c, hf, hb, hn⟩ := hj.hfn
  refine ⟨_, H, CallF.of_calls hf hb hn fun base w0 rho w cargs hp hv => ?_, h2⟩
  simp only [VRs] at hv
  obtain ⟨c1, r1, e1, v1, c2, r2, rfl, v2, rfl⟩ := hv
  simp only [VR] at v1 v2
  obtain ⟨bd, rfl, hm1⟩ := v1
  obtain ⟨bs, rfl, hm2⟩ := v2
  have hc : cargs = #[.map (some bd), .map (some bs)] := by apply Array.ext'; exact e1
  subst hc
  obtain ⟨_, ents, clock, es', g1, gp, _, g2, _⟩ := hp.map_at h1 hm2
  have he : es' = [] := gp.eq_nil
  subst he
  have hen : ents = #[] := by simpa using g2.nil
  subst hen
  exact ⟨.tuple #[], by simp only [VR]; exact ⟨#[], rfl, by simp only [VRs]⟩, hj.hempty bd bs clock w g1⟩

/-! ### tables -/
theorem TabOK.base {P : Program} (h : (P.funcs.toList.all fun fn => !(fn.name == "runtime.NumGoroutine")) = true) : TabOK P (fun f => (P.funcs[f]?).bind (compFn P f)) := fun f fe hf => by
  obtain ⟨fn, h1, h2⟩ := Option.bind_eq_some_iff.1 hf
  refine Or.inl ⟨fn, h1, ?_, h2⟩
  have hm : fn ∈ P.funcs.toList := by
    rw [← Array.getElem?_toList] at h1
    exact List.mem_of_getElem? h1
  have := List.all_eq_true.1 h fn hm
  simpa using this
theorem TabOK.nat {P : Program} {t : Nat → Option FnE} {n : Nat} {g : List V → Heap → K → R} (hg : NatOK P n g) (ht : TabOK P t) : TabOK P (fun f => Bool.rec (motive := fun _ => Option FnE) (t f) (some (.nat g)) (Nat.beq f n)) := fun f fe hf => by
  replace hf : Bool.rec (motive := fun _ => Option FnE) (t f) (some (.nat g)) (Nat.beq f n) = some fe := hf
  cases hb : Nat.beq f n with
  | false => rw [hb] at hf; exact ht f fe hf
  | true =>
    rw [hb] at hf
    obtain rfl := beq_of hb
    cases hf
    exact Or.inr ⟨g, rfl, hg⟩
end Go.Ev
