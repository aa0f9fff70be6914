/- A region whose loads may pass its stores: in the text's order. -/
import Derived.Test.YtaodjhgfhdncgaaGreatDoorEv25
set_option linter.unusedSectionVars false
set_option linter.unusedVariables false
set_option linter.unusedSimpArgs false
namespace Go.Ev
open Go.RowKit

/-- It hands one thing on, of which something is so; or nothing. -/
def SelP {α : Type} (Q : α → Prop) (f : (α → R) → R) : Prop := (∃ a, Q a ∧ ∀ k, f k = k a) ∨ ∀ k, f k ≠ 1
section
variable {α β : Type} {id : Nat} {Q : α → Prop}
theorem SelP.ret {a : α} (h : Q a) : SelP Q fun k => k a := Or.inl ⟨a, h, fun _ => rfl⟩
theorem SelP.no (c : Nat) : SelP Q fun _ : α → R => no c := Or.inr fun k h => no_ne h
theorem SelP.bind {f : (β → R) → R} {g : β → (α → R) → R} (h : Sel f) (hg : ∀ b, SelP Q (g b)) : SelP Q fun k => f fun b => g b k := by
  rcases h with ⟨b, hb⟩ | h
  · rcases hg b with ⟨a, hq, ha⟩ | h
    · exact Or.inl ⟨a, hq, fun k => (hb _).trans (ha k)⟩
    · exact Or.inr fun k => by show f _ ≠ 1; rw [hb]; exact h k
  · exact Or.inr fun k => h _
theorem SelP.bindP {S : β → Prop} {f : (β → R) → R} {g : β → (α → R) → R} (h : SelP S f) (hg : ∀ b, S b → SelP Q (g b)) : SelP Q fun k => f fun b => g b k := by
  rcases h with ⟨b, hs, hb⟩ | h
  · rcases hg b hs with ⟨a, hq, ha⟩ | h
    · exact Or.inl ⟨a, hq, fun k => (hb _).trans (ha k)⟩
    · exact Or.inr fun k => by show f _ ≠ 1; rw [hb]; exact h k
  · exact Or.inr fun k => h _
theorem SelP.ifB {b : Bool} {f g : (α → R) → R} (hf : SelP Q f) (hg : SelP Q g) : SelP Q fun k => Ev.ifB b (f k) (g k) := by
  cases b
  · exact hg
  · exact hf
theorem SelP.getA {a : Arg} {e : Env} {g : V → (α → R) → R} (hg : SelP Q (g (pgetA a e))) : SelP Q fun k => Ev.getA a e fun b => g b k := by
  simp only [getA_eq]; exact hg
theorem SelP.forceN {n : Nat} {g : Nat → (α → R) → R} (hg : ∀ b, SelP Q (g b)) : SelP Q fun k => Ev.forceN n fun b => g b k := by
  simp only [forceN_eq]; exact hg _
theorem SelP.get {f : (α → R) → R} (h : SelP Q f) {k : α → R} (h1 : f k = 1) : ∃ a, Q a ∧ k a = 1 ∧ ∀ k', f k' = k' a := by
  rcases h with ⟨a, hq, ha⟩ | h
  · exact ⟨a, hq, (ha k).symm.trans h1, ha⟩
  · exact absurd h1 (h k)
end

/-! ### stores leave the other blocks -/
def Fr (ob : Option Nat) (H H' : Heap) : Prop := ∀ b, b < H.n → ob ≠ some b → H'.get b = H.get b
theorem ht_set (x : Blk) : ∀ (t : HT) (k : Nat), SelP (fun t' : HT => t'.get k = x ∧ ∀ j, j ≠ k → t'.get j = t.get j) (fun c => t.set x k c) := by
  intro t k
  by_cases h : ∃ c : HT → R, t.set x k c = 1
  · obtain ⟨c, h⟩ := h
    have key : ∀ (t : HT) (k : Nat) (c : HT → R), t.set x k c = 1 → ∃ t', ∀ c', t.set x k c' = c' t' := by
      intro t
      induction t with
      | e =>
        intro k c h
        cases k with
        | zero => exact ⟨_, fun c' => rfl⟩
        | succ k => exact (no_ne h).elim
      | n u l r ihl ihr =>
        intro k c h
        cases k with
        | zero => exact ⟨_, fun c' => rfl⟩
        | succ k =>
          have e : ∀ c', HT.set x (.n u l r) (k + 1) c' = Nat.rec (motive := fun _ => R) (l.set x (k / 2) fun l' => c' (.n u l' r)) (fun _ _ => r.set x (k / 2) fun r' => c' (.n u l r')) (k % 2) := fun c' => rfl
          rw [e] at h
          rcases (by omega : k % 2 = 0 ∨ k % 2 = 1) with hk | hk
          · rw [hk] at h
            obtain ⟨t', ht⟩ := ihl _ _ h
            exact ⟨_, fun c' => by rw [e, hk]; exact ht _⟩
          · rw [hk] at h
            obtain ⟨t', ht⟩ := ihr _ _ h
            exact ⟨_, fun c' => by rw [e, hk]; exact ht _⟩
    obtain ⟨t', ht⟩ := key t k c h
    have h1 : t.set x k (fun _ => 1) = 1 := by rw [ht]
    obtain ⟨t2, _, h3, h4⟩ := HT.set_ok t k (fun q => open Classical in if q = t' then 1 else 0) (by rw [ht]; simp)
    have : t2 = t' := by
      by_cases h5 : t2 = t'
      · exact h5
      · rename_i h6; simp [h5] at h6
    subst this
    exact Or.inl ⟨t2, ⟨h3, h4⟩, ht⟩
  · exact Or.inr fun c hc => h ⟨c, hc⟩
theorem sel_hSet {id : Nat} (H : Heap) (b : Nat) (x : Blk) : SelP (fun H' => Fr (some b) H H' ∧ H'.n = H.n) (fun k => hSet id H b x k) := by
  cases H with
  | mk n wlo t =>
    have e : ∀ k, hSet id (.mk n wlo t) b x k = Ev.ifB (Nat.blt b n) (HT.set x t b fun t' => Ev.ifB (Nat.ble wlo b) (k (.mk n wlo t')) (k (.mk n b t'))) (no 0) := fun _ => rfl
    simp only [e]
    refine SelP.ifB (SelP.bindP (ht_set x t b) fun t' ht => ?_) (SelP.no 0)
    refine SelP.ifB (SelP.ret ⟨fun b' hb hne => ?_, rfl⟩) (SelP.ret ⟨fun b' hb hne => ?_, rfl⟩)
    · exact ht.2 b' fun h => hne (by rw [h])
    · exact ht.2 b' fun h => hne (by rw [h])
theorem sel_hNew (H : Heap) (x : Blk) : SelP (fun p : Nat × Heap => Fr none H p.2 ∧ H.n ≤ p.2.n) (fun k => hNew H x fun n H' => k (n, H')) := by
  cases H with
  | mk n wlo t =>
    have e : ∀ k : Nat × Heap → R, (hNew (.mk n wlo t) x fun n H' => k (n, H')) = HT.set x t n fun t' => Ev.forceN (Nat.succ n) fun n' => k (n, .mk n' wlo t') := fun _ => rfl
    simp only [e]
    refine SelP.bindP (ht_set x t n) fun t' ht => ?_
    simp only [forceN_eq]
    refine SelP.ret ⟨fun b hb _ => ht.2 b ?_, Nat.le_succ n⟩
    have : b < n := hb
    omega
theorem Fr.trans {ob : Option Nat} {H H1 H2 : Heap} (h : Fr ob H H1) (k : Fr none H1 H2) (hn : H.n ≤ H1.n) : Fr ob H H2 := fun b hb hne => (k b (Nat.lt_of_lt_of_le hb hn) (by simp)).trans (h b hb hne)
theorem Fr.any {ob : Option Nat} {H H1 : Heap} (h : Fr none H H1) : Fr ob H H1 := fun b hb _ => h b hb (by simp)

section
variable {id : Nat} {α : Type}
theorem sel_allOne (l : List V) : (∀ k, allOne id l k = k) ∨ ∀ k, allOne id l k ≠ 1 := by
  induction l with
  | nil => exact Or.inl fun k => rfl
  | cons v l ih =>
    have e : ∀ k, allOne id (v :: l) k = isOne id v (allOne id l k) := fun _ => rfl
    rcases ih with ih | ih
    · cases v <;> first | exact Or.inl fun k => by rw [e]; exact ih k | exact Or.inr fun k h => no_ne h
    · refine Or.inr fun k h => ?_
      rw [e] at h
      exact ih k (isOne_ok h).2
theorem SelP.allOne {Q : α → Prop} {l : List V} {f : (α → R) → R} (hf : SelP Q f) : SelP Q fun k => Ev.allOne id l (f k) := by
  rcases sel_allOne (id := id) l with h | h
  · simp only [h]; exact hf
  · exact Or.inr fun k => h _
theorem sel_isOne (v : V) : (∀ k, isOne id v k = k) ∨ ∀ k, isOne id v k ≠ 1 := by
  cases v <;> first | exact Or.inl fun k => rfl | exact Or.inr fun k h => no_ne h
theorem SelP.isOne {Q : α → Prop} {v : V} {f : (α → R) → R} (hf : SelP Q f) : SelP Q fun k => Ev.isOne id v (f k) := by
  rcases sel_isOne (id := id) v with h | h
  · simp only [h]; exact hf
  · exact Or.inr fun k => h _
theorem sel_packB : ∀ (l : List V), Sel (fun k : Nat × Nat → R => packB id l fun a b => k (a, b))
  | [] => Or.inl ⟨(0, 0), fun _ => rfl⟩
  | v :: l => by
    have e : ∀ k : Nat × Nat → R, (packB id (v :: l) fun a b => k (a, b)) = vInt id v fun kd x => Ev.ifB (Nat.beq kd 4) (packB id l fun len n => Ev.forceN (Nat.add x (Nat.mul 256 n)) fun n' => Ev.forceN (Nat.succ len) fun len' => k (len', n')) (no 0) := fun _ => rfl
    simp only [e]
    refine Sel.vInt fun kd x => Sel.ifB ?_ (Sel.no 0)
    exact Sel.bind (f := fun k : Nat × Nat → R => packB id l fun a b => k (a, b)) (g := fun p k => Ev.forceN (Nat.add x (Nat.mul 256 p.2)) fun n' => Ev.forceN (Nat.succ p.1) fun len' => k (len', n')) (sel_packB l) fun p => Sel.forceN fun n' => Sel.forceN fun len' => Sel.ret _
theorem sel_bOn {Q : α → Prop} {bl : Blk} {kc : List V → (α → R) → R} {kb : Nat → Nat → (α → R) → R} (h1 : ∀ l, SelP Q (kc l)) (h2 : ∀ a b, SelP Q (kb a b)) : SelP Q fun k => bOn id bl (fun l => kc l k) (fun a b => kb a b k) := by
  cases bl <;> first | exact h1 _ | exact h2 _ _ | exact Or.inr fun k h => no_ne h
theorem sel_bOn' {bl : Blk} {kc : List V → (α → R) → R} {kb : Nat → Nat → (α → R) → R} (h1 : ∀ l, Sel (kc l)) (h2 : ∀ a b, Sel (kb a b)) : Sel fun k => bOn id bl (fun l => kc l k) (fun a b => kb a b k) := by
  cases bl <;> first | exact h1 _ | exact h2 _ _ | exact Or.inr fun k h => no_ne h
theorem sel_storeN (H : Heap) (b off : Nat) (m : List V) : SelP (fun H' => Fr (some b) H H' ∧ H'.n = H.n) (fun k => storeN id H b off m k) := by
  unfold storeN
  simp only [hGet_eq]
  refine sel_bOn (kc := fun l k => Ev.allOne id m (setAt id m l off fun l' => hSet id H b (.cells l') k)) (kb := fun len x k => packB id m fun ml mx => Ev.ifB (Nat.ble (Nat.add off ml) len)
    (Ev.forceN (Nat.add (Nat.mod x (Nat.pow 256 off)) (Nat.shiftLeft (Nat.add mx (Nat.shiftLeft (Nat.shiftRight x (Nat.mul 8 (Nat.add off ml))) (Nat.mul 8 ml))) (Nat.mul 8 off))) fun x' => hSet id H b (.bytes len x') k) (no 0)) (fun l => ?_) (fun len x => ?_)
  · exact SelP.allOne (SelP.bind (g := fun l' k => hSet id H b (.cells l') k) (sel_setAt l off) fun l' => sel_hSet H b _)
  · exact SelP.bind (f := fun k : Nat × Nat → R => packB id m fun a b => k (a, b)) (g := fun p k => Ev.ifB (Nat.ble (Nat.add off p.1) len)
      (Ev.forceN (Nat.add (Nat.mod x (Nat.pow 256 off)) (Nat.shiftLeft (Nat.add p.2 (Nat.shiftLeft (Nat.shiftRight x (Nat.mul 8 (Nat.add off p.1))) (Nat.mul 8 p.1))) (Nat.mul 8 off))) fun x' => hSet id H b (.bytes len x') k) (no 0)) (sel_packB m) fun p => SelP.ifB (SelP.forceN fun x' => sel_hSet H b _) (SelP.no 0)
theorem sel_loadC (H : Heap) (b off : Nat) : Sel (loadC id H b off) := by
  unfold loadC
  simp only [hGet_eq]
  refine sel_bOn' (kc := fun l k => nth id l off k) (kb := fun len n k => Ev.ifB (Nat.blt off len) (Ev.forceN (Nat.land (Nat.shiftRight n (Nat.mul 8 off)) 255) fun x => k (.int 4 x)) (no 0)) (fun l => sel_nth l off) (fun len n => ?_)
  exact Sel.ifB (Sel.forceN fun x => Sel.ret _) (Sel.no 0)
theorem sel_unpackB (len : Nat) : ∀ n, Sel (unpackB len n) := fun n => Or.inl ⟨_, fun k => unpackB_eq len n k⟩
theorem sel_loadN (H : Heap) (b off n : Nat) : Sel (loadN id H b off n) := by
  unfold loadN
  simp only [hGet_eq]
  refine sel_bOn' (kc := fun l k => dropN id l off fun r => takeN id r n k) (kb := fun len x k => Ev.ifB (Nat.ble (Nat.add off n) len) (unpackB n (Nat.shiftRight x (Nat.mul 8 off)) k) (no 0)) (fun l => ?_) (fun len x => ?_)
  · exact Sel.bind (g := fun r k => takeN id r n k) (sel_dropN l off) fun r => sel_takeN r n
  · exact Sel.ifB (sel_unpackB n _) (Sel.no 0)
theorem sel_loadB (H : Heap) (b off n : Nat) : Sel (loadB id H b off n) := by
  unfold loadB
  simp only [hGet_eq]
  refine sel_bOn' (kc := fun l k => dropN id l off fun r => takeN id r n fun q => packB id q fun _ x => k x) (kb := fun len x k => Ev.ifB (Nat.ble (Nat.add off n) len) (Ev.forceN (Nat.mod (Nat.shiftRight x (Nat.mul 8 off)) (Nat.pow 256 n)) k) (no 0)) (fun l => ?_) (fun len x => ?_)
  · exact Sel.bind (g := fun r k => takeN id r n fun q => packB id q fun _ x => k x) (sel_dropN l off) fun r => Sel.bind (g := fun q k => packB id q fun _ x => k x) (sel_takeN r n) fun q => Sel.bind (f := fun k : Nat × Nat → R => packB id q fun a b => k (a, b)) (g := fun p k => k p.2) (sel_packB q) fun p => Sel.ret _
  · exact Sel.ifB (Sel.forceN fun x => Sel.ret _) (Sel.no 0)
theorem sel_newCells (size : Nat) (H : Heap) (x : V) : Sel (fun k : Nat × List V → R => newCells id size H x fun n l => k (n, l)) := by
  cases x <;> first | exact Or.inr fun k h => no_ne h | exact Or.inl ⟨_, fun k => rfl⟩ | skip
  · rename_i l n
    exact Sel.ifB (b := Nat.beq size 1) (f := fun k : Nat × List V → R => unpackB l n fun m => k (l, m)) (Sel.bind (g := fun m k => k (l, m)) (sel_unpackB l n) fun m => Sel.ret _) (Sel.no 0)
  · rename_i b o l c s
    exact Sel.bind (f := loadN id H b o (Nat.mul l size)) (g := fun m (k : Nat × List V → R) => k (l, m)) (sel_loadN H b o _) fun m => Sel.ret _
theorem sel_newBytes (H : Heap) (x : V) : Sel (fun k : Nat × Nat → R => newBytes id H x fun n l => k (n, l)) := by
  cases x <;> first | exact Or.inr fun k h => no_ne h | exact Or.inl ⟨_, fun k => rfl⟩ | skip
  rename_i b o l c s
  exact Sel.bind (f := loadB id H b o l) (g := fun m (k : Nat × Nat → R) => k (l, m)) (sel_loadB H b o _) fun m => Sel.ret _

/-- The block that a store, or an append, goes to. -/
def obOf : V → Option Nat
  | .ptr b _ => some b
  | .slice b _ _ _ _ => some b
  | _ => none
def FrV (ob : Option Nat) (H : Heap) (p : V × Heap) : Prop := Fr ob H p.2

theorem sel_appC {size n b o len cp sz : Nat} {new : List V} {H : Heap} : SelP (FrV (some b) H) (fun k : V × Heap → R => appC id size n new b o len cp sz H fun v H' => k (v, H')) := by
  unfold appC
  refine SelP.allOne (SelP.forceN fun need => SelP.ifB ?_ (SelP.no 0))
  cases cp with
  | zero =>
    refine SelP.ifB (f := fun k : V × Heap → R => Ev.ifB (Nat.beq o 0) (hGet H b fun bl => bOn id bl (fun l => Ev.ifB (Nat.beq (lenL l) (Nat.mul len size)) (appL l new fun l' => hSet id H b .dead fun H => hNew H (.cells l') fun b' H => k (V.slice b' 0 need 0 size, H)) (no 0)) (fun _ _ => no 0)) (no 0)) (g := fun _ => no 0) (SelP.ifB ?_ (SelP.no 0)) (SelP.no 0)
    simp only [hGet_eq, appL_eq]
    refine sel_bOn (kc := fun l (k : V × Heap → R) => Ev.ifB (Nat.beq (lenL l) (Nat.mul len size)) (hSet id H b .dead fun H => hNew H (.cells (l ++ new)) fun b' H => k (V.slice b' 0 need 0 size, H)) (no 0)) (kb := fun _ _ (_ : V × Heap → R) => no 0) (fun l => ?_) (fun _ _ => SelP.no 0)
    refine SelP.ifB (SelP.bindP (g := fun H1 (k : V × Heap → R) => hNew H1 (.cells (l ++ new)) fun b' H => k (V.slice b' 0 need 0 size, H)) (sel_hSet H b .dead) fun H1 h1 => ?_) (SelP.no 0)
    exact SelP.bindP (f := fun k : Nat × Heap → R => hNew H1 (.cells (l ++ new)) fun n H' => k (n, H')) (g := fun p (k : V × Heap → R) => k (V.slice p.1 0 need 0 size, p.2)) (sel_hNew H1 _) fun p hp => SelP.ret (h1.1.trans hp.1 (by rw [h1.2]; exact Nat.le_refl _))
  | succ q =>
    refine SelP.ifB (f := fun k : V × Heap → R => storeN id H b (Nat.add o (Nat.mul len size)) new fun H => k (V.slice b o need (q + 1) sz, H)) (g := fun k : V × Heap → R => loadN id H b o (Nat.mul len size) fun l => Ev.allOne id l (appL l new fun l' => hNew H (.cells l') fun b' H => k (V.slice b' 0 need 0 size, H))) ?_ ?_
    · exact SelP.bindP (g := fun H1 (k : V × Heap → R) => k (V.slice b o need (q + 1) sz, H1)) (sel_storeN H b _ new) fun H1 h1 => SelP.ret h1.1
    · refine SelP.bind (g := fun l (k : V × Heap → R) => Ev.allOne id l (appL l new fun l' => hNew H (.cells l') fun b' H => k (V.slice b' 0 need 0 size, H))) (sel_loadN H b o _) fun l => SelP.allOne ?_
      simp only [appL_eq]
      exact SelP.bindP (f := fun k : Nat × Heap → R => hNew H (.cells (l ++ new)) fun n H' => k (n, H')) (g := fun p (k : V × Heap → R) => k (V.slice p.1 0 need 0 size, p.2)) (sel_hNew H _) fun p hp => SelP.ret hp.1.any
theorem sel_appB {n new b o len cp sz : Nat} {H : Heap} : SelP (FrV (some b) H) (fun k : V × Heap → R => appB id n new b o len cp sz H fun v H' => k (v, H')) := by
  unfold appB
  refine SelP.forceN fun need => SelP.ifB ?_ (SelP.no 0)
  cases cp with
  | zero =>
    refine SelP.ifB (f := fun k : V × Heap → R => Ev.ifB (Nat.beq o 0) (hGet H b fun bl => bOn id bl (fun _ => no 0) (fun ln m => Ev.ifB (Nat.beq ln len) (Ev.forceN (Nat.add m (Nat.shiftLeft new (Nat.mul 8 len))) fun m' => hSet id H b .dead fun H => hNew H (.bytes need m') fun b' H => k (V.slice b' 0 need 0 1, H)) (no 0))) (no 0)) (g := fun _ => no 0) (SelP.ifB ?_ (SelP.no 0)) (SelP.no 0)
    simp only [hGet_eq]
    refine sel_bOn (kc := fun _ (_ : V × Heap → R) => no 0) (kb := fun ln m (k : V × Heap → R) => Ev.ifB (Nat.beq ln len) (Ev.forceN (Nat.add m (Nat.shiftLeft new (Nat.mul 8 len))) fun m' => hSet id H b .dead fun H => hNew H (.bytes need m') fun b' H => k (V.slice b' 0 need 0 1, H)) (no 0)) (fun _ => SelP.no 0) (fun ln m => ?_)
    refine SelP.ifB (SelP.forceN fun m' => ?_) (SelP.no 0)
    refine SelP.bindP (g := fun H1 (k : V × Heap → R) => hNew H1 (.bytes need m') fun b' H => k (V.slice b' 0 need 0 1, H)) (sel_hSet H b .dead) fun H1 h1 => ?_
    exact SelP.bindP (f := fun k : Nat × Heap → R => hNew H1 (.bytes need m') fun n H' => k (n, H')) (g := fun p (k : V × Heap → R) => k (V.slice p.1 0 need 0 1, p.2)) (sel_hNew H1 _) fun p hp => SelP.ret (h1.1.trans hp.1 (by rw [h1.2]; exact Nat.le_refl _))
  | succ q =>
    refine SelP.ifB (f := fun _ : V × Heap → R => no 0) (g := fun k : V × Heap → R => loadB id H b o len fun m => Ev.forceN (Nat.add m (Nat.shiftLeft new (Nat.mul 8 len))) fun m' => hNew H (.bytes need m') fun b' H => k (V.slice b' 0 need 0 1, H)) (SelP.no 0) ?_
    refine SelP.bind (g := fun m (k : V × Heap → R) => Ev.forceN (Nat.add m (Nat.shiftLeft new (Nat.mul 8 len))) fun m' => hNew H (.bytes need m') fun b' H => k (V.slice b' 0 need 0 1, H)) (sel_loadB H b o _) fun m => SelP.forceN fun m' => ?_
    exact SelP.bindP (f := fun k : Nat × Heap → R => hNew H (.bytes need m') fun n H' => k (n, H')) (g := fun p (k : V × Heap → R) => k (V.slice p.1 0 need 0 1, p.2)) (sel_hNew H _) fun p hp => SelP.ret hp.1.any

/-- A store changes no block but its own. -/
theorem st_frame {c : OpE} (hc : isSt c = true) {ph : Phi} {e : Env} {H : Heap} : SelP (FrV (obOf (pgetA (adOf c) e)) H) (fun k : V × Heap → R => evOp c id ph e H fun v H' => k (v, H')) := by
  cases c <;> simp only [isSt, Bool.false_eq_true] at hc
  · rename_i a x
    show SelP (FrV (obOf (pgetA a e)) H) (fun k : V × Heap → R => eStore1 a x id ph e H fun v H' => k (v, H'))
    unfold eStore1
    refine SelP.getA ?_
    cases pgetA a e <;> first | exact Or.inr fun k h => no_ne h | skip
    rename_i b o
    refine SelP.getA (g := fun x (k : V × Heap → R) => Ev.isOne id x (storeN id H b o [x] fun H => k (.tup [], H))) (SelP.isOne ?_)
    exact SelP.bindP (g := fun H1 (k : V × Heap → R) => k (.tup [], H1)) (sel_storeN H b o _) fun H1 h1 => SelP.ret h1.1
  · rename_i n a x
    show SelP (FrV (obOf (pgetA a e)) H) (fun k : V × Heap → R => eStoreA n a x id ph e H fun v H' => k (v, H'))
    unfold eStoreA
    refine SelP.getA ?_
    cases pgetA a e <;> first | exact Or.inr fun k h => no_ne h | skip
    rename_i b o
    refine SelP.getA (g := fun x (k : V × Heap → R) => vAgg id x fun l => Ev.ifB (Nat.beq (lenL l) n) (storeN id H b o l fun H => k (.tup [], H)) (no 0)) ?_
    cases pgetA x e <;> first | exact Or.inr fun k h => no_ne h | skip
    rename_i l
    refine SelP.ifB (f := fun k : V × Heap → R => storeN id H b o l fun H => k (.tup [], H)) ?_ (SelP.no 0)
    exact SelP.bindP (g := fun H1 (k : V × Heap → R) => k (.tup [], H1)) (sel_storeN H b o _) fun H1 h1 => SelP.ret h1.1
  · rename_i u size s x
    have key : ∀ (f : Nat → Nat → Nat → Nat → Nat → Nat → (V × Heap → R) → R) (z : Nat → (V × Heap → R) → R) (n : Nat), (∀ b o len cp sz, SelP (FrV (some b) H) (f n b o len cp sz)) → (SelP (FrV none H) (z n)) →
        SelP (FrV (obOf (pgetA s e)) H) (fun k => vSliceN id (pgetA s e) (fun b o len cp sz => Nat.rec (motive := fun _ => R) (k (pgetA s e, H)) (fun _ _ => f n b o len cp sz k) n) (Nat.rec (motive := fun _ => R) (k (pgetA s e, H)) (fun _ _ => z n k) n)) := fun f z n hf hz => by
      cases hs : pgetA s e <;> first | exact Or.inr fun k h => no_ne h | skip
      · rename_i b o len cp sz
        cases n with
        | zero => exact SelP.ret fun _ _ _ => rfl
        | succ n => exact hf b o len cp sz
      · cases n with
        | zero => exact SelP.ret fun _ _ _ => rfl
        | succ n => exact hz
    cases u with
    | true =>
      show SelP (FrV (obOf (pgetA s e)) H) (fun k : V × Heap → R => eAppB s x id e H fun v H' => k (v, H'))
      unfold eAppB
      refine SelP.getA (SelP.getA ?_)
      refine SelP.bind (f := fun k : Nat × Nat → R => newBytes id H (pgetA x e) fun n l => k (n, l)) (g := fun p (k : V × Heap → R) => vSliceN id (pgetA s e) (fun b o len cp sz => Nat.rec (motive := fun _ => R) (k (pgetA s e, H)) (fun _ _ => appB id p.1 p.2 b o len cp sz H fun v H' => k (v, H')) p.1)
        (Nat.rec (motive := fun _ => R) (k (pgetA s e, H)) (fun _ _ => Ev.ifB (Nat.ble p.1 1073741824) (hNew H (.bytes p.1 p.2) fun b' H => k (V.slice b' 0 p.1 0 1, H)) (no 0)) p.1)) (sel_newBytes H _) fun p => ?_
      refine key (fun n b o len cp sz k => appB id n p.2 b o len cp sz H fun v H' => k (v, H')) (fun n k => Ev.ifB (Nat.ble n 1073741824) (hNew H (.bytes n p.2) fun b' H => k (V.slice b' 0 n 0 1, H)) (no 0)) p.1 (fun b o len cp sz => sel_appB) ?_
      refine SelP.ifB ?_ (SelP.no 0)
      exact SelP.bindP (f := fun k : Nat × Heap → R => hNew H (.bytes p.1 p.2) fun n H' => k (n, H')) (g := fun q (k : V × Heap → R) => k (V.slice q.1 0 p.1 0 1, q.2)) (sel_hNew H _) fun q hq => SelP.ret hq.1
    | false =>
      show SelP (FrV (obOf (pgetA s e)) H) (fun k : V × Heap → R => eAppC size s x id e H fun v H' => k (v, H'))
      unfold eAppC
      refine SelP.getA (SelP.getA ?_)
      refine SelP.bind (f := fun k : Nat × List V → R => newCells id size H (pgetA x e) fun n l => k (n, l)) (g := fun p (k : V × Heap → R) => vSliceN id (pgetA s e) (fun b o len cp sz => Nat.rec (motive := fun _ => R) (k (pgetA s e, H)) (fun _ _ => appC id size p.1 p.2 b o len cp sz H fun v H' => k (v, H')) p.1)
        (Nat.rec (motive := fun _ => R) (k (pgetA s e, H)) (fun _ _ => Ev.allOne id p.2 (Ev.ifB (Nat.ble p.1 1073741824) (hNew H (.cells p.2) fun b' H => k (V.slice b' 0 p.1 0 size, H)) (no 0))) p.1)) (sel_newCells size H _) fun p => ?_
      refine key (fun n b o len cp sz k => appC id size n p.2 b o len cp sz H fun v H' => k (v, H')) (fun n k => Ev.allOne id p.2 (Ev.ifB (Nat.ble n 1073741824) (hNew H (.cells p.2) fun b' H => k (V.slice b' 0 n 0 size, H)) (no 0))) p.1 (fun b o len cp sz => sel_appC) ?_
      refine SelP.allOne (SelP.ifB ?_ (SelP.no 0))
      exact SelP.bindP (f := fun k : Nat × Heap → R => hNew H (.cells p.2) fun n H' => k (n, H')) (g := fun q (k : V × Heap → R) => k (V.slice q.1 0 p.1 0 size, q.2)) (sel_hNew H _) fun q hq => SelP.ret hq.1
end
end Go.Ev
