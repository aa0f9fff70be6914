/- What a pure operation yields does not hang on the heap. -/
import Derived.Test.YtaodjhgfhdncgaaGreatDoorEv22
set_option linter.unusedSectionVars false
set_option linter.unusedVariables false
set_option linter.unusedSimpArgs false
namespace Go.Ev
open Go.RowKit

/-- It hands one thing on, whatever it is handed on to; or nothing. -/
def Sel {α : Type} (f : (α → R) → R) : Prop := (∃ a, ∀ k, f k = k a) ∨ ∀ k, f k ≠ 1
section
variable {α β : Type} {id : Nat}
theorem Sel.ret (a : α) : Sel fun k => k a := Or.inl ⟨a, fun _ => rfl⟩
theorem Sel.no (c : Nat) : Sel fun _ : α → R => no c := Or.inr fun k h => no_ne h
theorem Sel.bind {f : (β → R) → R} {g : β → (α → R) → R} (h : Sel f) (hg : ∀ b, Sel (g b)) : Sel fun k => f fun b => g b k := by
  rcases h with ⟨b, hb⟩ | h
  · rcases hg b with ⟨a, ha⟩ | h
    · exact Or.inl ⟨a, fun k => (hb _).trans (ha k)⟩
    · exact Or.inr fun k => by show f _ ≠ 1; rw [hb]; exact h k
  · exact Or.inr fun k => h _
theorem Sel.ifB {b : Bool} {f g : (α → R) → R} (hf : Sel f) (hg : Sel g) : Sel fun k => Ev.ifB b (f k) (g k) := by
  cases b
  · exact hg
  · exact hf
theorem Sel.getA {a : Arg} {e : Env} {g : V → (α → R) → R} (hg : ∀ b, Sel (g b)) : Sel fun k => Ev.getA a e fun b => g b k := by
  simp only [getA_eq]; exact hg _
theorem Sel.getAs {l : List Arg} {e : Env} {g : List V → (α → R) → R} (hg : ∀ b, Sel (g b)) : Sel fun k => Ev.getAs l e fun b => g b k := by
  simp only [getAs_eq]; exact hg _
theorem Sel.forceN {n : Nat} {g : Nat → (α → R) → R} (hg : ∀ b, Sel (g b)) : Sel fun k => Ev.forceN n fun b => g b k := by
  simp only [forceN_eq]; exact hg _
theorem Sel.vInt {x : V} {g : Nat → Nat → (α → R) → R} (hg : ∀ a b, Sel (g a b)) : Sel fun k => Ev.vInt id x fun a b => g a b k := by
  cases x <;> first | exact Or.inr fun k h => no_ne h | exact hg _ _
theorem Sel.vBool {x : V} {g : Bool → (α → R) → R} (hg : ∀ a, Sel (g a)) : Sel fun k => Ev.vBool id x fun a => g a k := by
  cases x <;> first | exact Or.inr fun k h => no_ne h | exact hg _
theorem Sel.vStr {x : V} {g : Nat → Nat → (α → R) → R} (hg : ∀ a b, Sel (g a b)) : Sel fun k => Ev.vStr id x fun a b => g a b k := by
  cases x <;> first | exact Or.inr fun k h => no_ne h | exact hg _ _
theorem Sel.vPtr {x : V} {g : Nat → Nat → (α → R) → R} (hg : ∀ a b, Sel (g a b)) : Sel fun k => Ev.vPtr id x fun a b => g a b k := by
  cases x <;> first | exact Or.inr fun k h => no_ne h | exact hg _ _
theorem Sel.vSlice {x : V} {g : Nat → Nat → Nat → Nat → Nat → (α → R) → R} (hg : ∀ a b c d e, Sel (g a b c d e)) : Sel fun k => Ev.vSlice id x fun a b c d e => g a b c d e k := by
  cases x <;> first | exact Or.inr fun k h => no_ne h | exact hg _ _ _ _ _
theorem Sel.vSliceN {x : V} {g : Nat → Nat → Nat → Nat → Nat → (α → R) → R} {z : (α → R) → R} (hg : ∀ a b c d e, Sel (g a b c d e)) (hz : Sel z) : Sel fun k => Ev.vSliceN id x (fun a b c d e => g a b c d e k) (z k) := by
  cases x <;> first | exact Or.inr fun k h => no_ne h | exact hg _ _ _ _ _ | exact hz
theorem Sel.vAgg {x : V} {g : List V → (α → R) → R} (hg : ∀ a, Sel (g a)) : Sel fun k => Ev.vAgg id x fun a => g a k := by
  cases x <;> first | exact Or.inr fun k h => no_ne h | exact hg _
theorem Sel.vTup {x : V} {g : List V → (α → R) → R} (hg : ∀ a, Sel (g a)) : Sel fun k => Ev.vTup id x fun a => g a k := by
  cases x <;> first | exact Or.inr fun k h => no_ne h | exact hg _
theorem Sel.vCells {x : V} {g : List V → (α → R) → R} (hg : ∀ a, Sel (g a)) : Sel fun k => Ev.vCells id x fun a => g a k := by
  cases x <;> first | exact hg _ | exact Or.inr fun k h => no_ne h
theorem sel_nilly {x : V} : Sel (nilly id x) := by
  cases x <;> first | exact Or.inr fun k h => no_ne h | exact Or.inl ⟨_, fun _ => rfl⟩ | skip
  rename_i b
  cases b <;> exact Or.inl ⟨_, fun _ => rfl⟩
theorem Sel.nilly {x : V} {g : Nat → (α → R) → R} (hg : ∀ a, Sel (g a)) : Sel fun k => Ev.nilly id x fun a => g a k := Sel.bind sel_nilly hg
theorem sel_nth : ∀ (l : List V) (i : Nat), Sel (nth id l i)
  | [], i => Or.inr fun k h => no_ne h
  | v :: l, 0 => Or.inl ⟨v, fun _ => rfl⟩
  | v :: l, i + 1 => sel_nth l i
theorem Sel.nth {l : List V} {i : Nat} {g : V → (α → R) → R} (hg : ∀ a, Sel (g a)) : Sel fun k => Ev.nth id l i fun a => g a k := Sel.bind (sel_nth l i) hg
theorem sel_takeN : ∀ (l : List V) (i : Nat), Sel (takeN id l i)
  | [], 0 => Or.inl ⟨[], fun _ => rfl⟩
  | [], _ + 1 => Or.inr fun k h => no_ne h
  | v :: l, 0 => Or.inl ⟨[], fun _ => rfl⟩
  | v :: l, i + 1 => Sel.bind (g := fun r k => k (v :: r)) (sel_takeN l i) fun r => Sel.ret _
theorem Sel.takeN {l : List V} {i : Nat} {g : List V → (α → R) → R} (hg : ∀ a, Sel (g a)) : Sel fun k => Ev.takeN id l i fun a => g a k := Sel.bind (sel_takeN l i) hg
theorem sel_dropN : ∀ (l : List V) (i : Nat), Sel (dropN id l i)
  | [], 0 => Or.inl ⟨[], fun _ => rfl⟩
  | [], _ + 1 => Or.inr fun k h => no_ne h
  | v :: l, 0 => Or.inl ⟨v :: l, fun _ => rfl⟩
  | v :: l, i + 1 => sel_dropN l i
theorem Sel.dropN {l : List V} {i : Nat} {g : List V → (α → R) → R} (hg : ∀ a, Sel (g a)) : Sel fun k => Ev.dropN id l i fun a => g a k := Sel.bind (sel_dropN l i) hg
theorem sel_over : ∀ (m l : List V), Sel (over id m l)
  | [], l => Or.inl ⟨l, fun _ => rfl⟩
  | x :: m, [] => Or.inr fun k h => no_ne h
  | x :: m, y :: l => Sel.bind (g := fun r k => k (x :: r)) (sel_over m l) fun r => Sel.ret _
theorem sel_setAt {m : List V} : ∀ (l : List V) (i : Nat), Sel (setAt id m l i)
  | [], 0 => sel_over (id := id) m []
  | [], _ + 1 => Or.inr fun k h => no_ne h
  | v :: l, 0 => sel_over (id := id) m (v :: l)
  | v :: l, i + 1 => Sel.bind (g := fun r k => k (v :: r)) (sel_setAt l i) fun r => Sel.ret _
theorem Sel.bnd {x : Option Arg} {e : Env} {d : Nat} {g : Nat → (α → R) → R} (hg : ∀ a, Sel (g a)) : Sel fun k => Ev.bnd id x e d fun a => g a k := by
  cases x with
  | none => exact hg d
  | some a => exact Sel.getA fun v => Sel.vInt fun kd n => Sel.ifB (Sel.ifB (hg n) (Sel.no 0)) (Sel.no 0)
theorem Sel.idx {i : Arg} {e : Env} {len : Nat} {g : Nat → (α → R) → R} (hg : ∀ a, Sel (g a)) : Sel fun k => Ev.idx id i e len fun a => g a k :=
  Sel.getA fun v => Sel.vInt fun kd n => Sel.ifB (Sel.ifB (Sel.ifB (hg n) (Sel.no 0)) (Sel.no 0)) (Sel.no 0)
theorem sel_fillL {e : Env} : ∀ (ps : List (Nat × Nat × Arg)) (z : List V), Sel (fillL id e ps z)
  | [], z => Or.inl ⟨z, fun _ => rfl⟩
  | (off, size, a) :: ps, z => Sel.getA (g := fun v k => Ev.vCells id v fun l => Ev.ifB (Nat.beq (lenL l) size) (setAt id l z off fun z' => fillL id e ps z' k) (Ev.no 0)) fun v => Sel.vCells fun l => Sel.ifB (Sel.bind (sel_setAt z off) fun z' => sel_fillL ps z') (Sel.no 0)
end
theorem sel_evBF {id : Nat} (f : BF) (a b : Nat) : Sel (evBF id f a b) := by
  cases f <;> first
    | exact Sel.forceN fun n => Sel.ret n
    | exact Sel.ifB (Sel.forceN fun n => Sel.ret n) (Sel.ifB (Sel.ret 0) (Sel.no 0))
    | exact Sel.ifB (Sel.ifB (Sel.forceN fun n => Sel.ret n) (Sel.ifB (Sel.ret 0) (Sel.no 0))) (Sel.no 0)
    | exact Sel.ifB (Sel.ifB (Sel.ifB (Sel.no 0) (Sel.forceN fun n => Sel.ret n)) (Sel.no 0)) (Sel.no 0)
theorem Sel.evBF {α : Type} {id : Nat} {f : BF} {a b : Nat} {g : Nat → (α → R) → R} (hg : ∀ a, Sel (g a)) : Sel fun k => Ev.evBF id f a b fun a => g a k := Sel.bind (sel_evBF f a b) hg
theorem Sel.fillL {α : Type} {id : Nat} {e : Env} {ps : List (Nat × Nat × Arg)} {z : List V} {g : List V → (α → R) → R} (hg : ∀ a, Sel (g a)) : Sel fun k => Ev.fillL id e ps z fun a => g a k := Sel.bind (sel_fillL ps z) hg

theorem sel_leafEq {id : Nat} (c : Nat) (x y : V) : Sel (leafEq id c x y) := by
  match c with
  | 0 => exact Sel.vBool (id := id) (g := fun a k => Ev.vBool id y fun b => Ev.ifB a (k b) (Ev.ifB b (k false) (k true))) fun a => Sel.vBool fun b => Sel.ifB (Sel.ret b) (Sel.ifB (Sel.ret false) (Sel.ret true))
  | 1 => exact Sel.vInt (id := id) (g := fun k1 a k => Ev.vInt id y fun k2 b => Ev.ifB (Nat.beq k1 k2) (k (Nat.beq a b)) (Ev.no 0)) fun k1 a => Sel.vInt fun k2 b => Sel.ifB (Sel.ret _) (Sel.no 0)
  | c + 2 => exact Sel.vStr (id := id) (g := fun l1 a k => Ev.vStr id y fun l2 b => Ev.ifB (Nat.beq l1 l2) (k (Nat.beq a b)) (k false)) fun l1 a => Sel.vStr fun l2 b => Sel.ifB (Sel.ret _) (Sel.ret false)
theorem sel_eqCs {id : Nat} : ∀ (cls : List Nat) (l m : List V), Sel (eqCs id cls l m)
  | [], l, m => Or.inl ⟨true, fun _ => rfl⟩
  | c :: cls, [], m => Or.inr fun k h => no_ne h
  | c :: cls, a :: l, [] => Or.inr fun k h => no_ne h
  | c :: cls, a :: l, b :: m => Sel.bind (g := fun r k => Ev.ifB r (eqCs id cls l m k) (k false)) (sel_leafEq c a b) fun r => Sel.ifB (sel_eqCs cls l m) (Sel.ret false)
theorem Sel.eqCs {α : Type} {id : Nat} {cls : List Nat} {l m : List V} {g : Bool → (α → R) → R} (hg : ∀ a, Sel (g a)) : Sel fun k => Ev.eqCs id cls l m fun a => g a k := Sel.bind (sel_eqCs cls l m) hg

theorem sel_pure {P : Program} {nt : Nat} {c : OpE} {id : Nat} {ph : Phi} {e : Env} (hp : pureOp c = true) (H : Heap) : Sel fun k : V → R => evOp c id ph e H fun v _ => k v := by
  cases c <;> simp only [pureOp, Bool.false_eq_true] at hp
  case mov x => exact Sel.getA fun v => Sel.ret v
  case aggEq cls neg x y => exact Sel.getA fun x => Sel.vAgg fun l => Sel.getA fun y => Sel.vAgg fun m => Sel.ifB (Sel.ifB (Sel.eqCs fun b => Sel.ifB (Sel.ifB (Sel.ret _) (Sel.ret _)) (Sel.ret _)) (Sel.no 0)) (Sel.no 0)
  case pick c x y => exact Sel.getA fun c => Sel.vBool fun b => Sel.ifB (Sel.getA fun v => Sel.ret v) (Sel.getA fun v => Sel.ret v)
  case build z ps => exact Sel.fillL fun l => Sel.ret _
  case nilc x =>
    refine Sel.getA (g := fun v k => eNilc (.c v) id ph e H fun v _ => k v) fun v => ?_
    cases v <;> first | exact Sel.ret _ | exact Sel.no 0
  case bin => exact Sel.getA fun x => Sel.vInt fun k1 a => Sel.getA fun y => Sel.vInt fun k2 b => Sel.ifB (Sel.ifB (Sel.evBF fun r => Sel.ret _) (Sel.no 0)) (Sel.no 0)
  case cmp => exact Sel.getA fun x => Sel.vInt fun k1 a => Sel.getA fun y => Sel.vInt fun k2 b => Sel.ifB (Sel.ifB (Sel.ifB (Sel.ret _) (Sel.ret _)) (Sel.no 0)) (Sel.no 0)
  case sadd => exact Sel.getA fun x => Sel.vStr fun k1 a => Sel.getA fun y => Sel.vStr fun k2 b => Sel.forceN fun l => Sel.ifB (Sel.forceN fun n => Sel.ret _) (Sel.no 0)
  case scmp => exact Sel.getA fun x => Sel.vStr fun k1 a => Sel.getA fun y => Sel.vStr fun k2 b => Sel.ifB (Sel.ifB (Sel.ifB (Sel.ret _) (Sel.ret _)) (Sel.ret _)) (Sel.ret _)
  case eqv => exact Sel.getA fun x => Sel.nilly fun a => Sel.getA fun y => Sel.nilly fun b => Sel.ifB (Sel.ifB (Sel.ifB (Sel.ifB (Sel.no 0) (Sel.ifB (Sel.ret _) (Sel.ret _))) (Sel.ret _)) (Sel.no 0)) (Sel.no 0)
  case lnot => exact Sel.getA fun x => Sel.vBool fun b => Sel.ifB (Sel.ret _) (Sel.ret _)
  case convI src dst mode c x =>
    refine Sel.getA (g := fun v k => eConvI src dst mode c (.c v) id ph e H fun v _ => k v) fun v => ?_
    cases mode with
    | zero => exact Sel.vInt (id := id) fun k1 a => Sel.ifB (Sel.forceN fun r => Sel.ret _) (Sel.no 0)
    | succ m => exact Sel.vInt (id := id) fun k1 a => Sel.ifB (Sel.ifB (Sel.ret _) (Sel.forceN fun r => Sel.ret _)) (Sel.no 0)
  case mkI => exact Sel.getA fun v => Sel.ret _
  case mkF => exact Sel.getAs fun v => Sel.ret _
  case slS => exact Sel.getA fun x => Sel.vStr fun len n => Sel.bnd fun h => Sel.bnd fun l => Sel.ifB (Sel.ifB (Sel.forceN fun d => Sel.forceN fun r => Sel.ret _) (Sel.no 0)) (Sel.no 0)
  case slV size x lo hi mx =>
    refine Sel.getA (g := fun v k => eSlV size (.c v) lo hi mx id ph e H fun v _ => k v) fun v => ?_
    cases mx with
    | none =>
      exact Sel.vSliceN (id := id) (fun b o len cp sz => by
        cases cp with
        | zero => exact Sel.bnd fun l => Sel.bnd fun h => Sel.ifB (Sel.forceN fun d => Sel.ifB (Sel.ifB (Sel.forceN fun o' => Sel.ret _) (Sel.no 0)) (Sel.no 0)) (Sel.no 0)
        | succ q => exact Sel.bnd fun l => Sel.bnd fun h => Sel.ifB (Sel.forceN fun d => Sel.ifB (Sel.ifB (Sel.ret _) (Sel.forceN fun o' => Sel.forceN fun c' => Sel.ret _)) (Sel.no 0)) (Sel.no 0)) (Sel.bnd fun l => Sel.bnd fun h => Sel.bnd fun m => Sel.ifB (Sel.ifB (Sel.ifB (Sel.ret _) (Sel.no 0)) (Sel.no 0)) (Sel.no 0))
    | some m =>
      exact Sel.vSliceN (id := id) (fun b o len cp sz => Sel.bnd fun l => Sel.bnd fun h => Sel.ifB (Sel.forceN fun d => Sel.bnd fun m => Sel.ifB (Sel.ifB (Sel.ifB (Sel.ret _) (Sel.forceN fun o' => Sel.forceN fun c' => Sel.ret _)) (Sel.no 0)) (Sel.no 0)) (Sel.no 0)) (Sel.bnd fun l => Sel.bnd fun h => Sel.bnd fun m => Sel.ifB (Sel.ifB (Sel.ifB (Sel.ret _) (Sel.no 0)) (Sel.no 0)) (Sel.no 0))
  case slA => exact Sel.getA fun x => Sel.vPtr fun b o => Sel.bnd fun m => Sel.bnd fun h => Sel.bnd fun l => Sel.ifB (Sel.ifB (Sel.ifB (Sel.forceN fun d => Sel.ifB (Sel.ret _) (Sel.forceN fun o' => Sel.forceN fun c' => Sel.ret _)) (Sel.no 0)) (Sel.no 0)) (Sel.no 0)
  case fadd => exact Sel.getA fun x => Sel.vPtr fun b o => Sel.forceN fun o' => Sel.ret _
  case fld1 => exact Sel.getA fun x => Sel.vAgg fun l => Sel.nth fun v => Sel.ret _
  case fldA => exact Sel.getA fun x => Sel.vAgg fun l => Sel.dropN fun r => Sel.takeN fun q => Sel.ret _
  case ixA => exact Sel.getA fun x => Sel.vPtr fun b o => Sel.idx fun n => Sel.forceN fun o' => Sel.ret _
  case ixV => exact Sel.getA fun x => Sel.vSlice fun b o _ _ _ => Sel.idx fun n => Sel.forceN fun o' => Sel.ret _
  case ixS => exact Sel.getA fun x => Sel.vStr fun b o => Sel.idx fun n => Sel.forceN fun o' => Sel.ret _
  case ixG => exact Sel.getA fun x => Sel.vAgg fun l => Sel.idx fun n => Sel.ifB (Sel.dropN fun r => Sel.takeN fun q => Sel.ret _) (Sel.nth fun v => Sel.ret _)
  case extr => exact Sel.getA fun x => Sel.vTup fun l => Sel.nth fun v => Sel.ret _
theorem pure_heap {c : OpE} {id : Nat} {ph : Phi} {e : Env} (hp : pureOp c = true) (H H2 : Heap) (k : K) : evOp c id ph e H k = evOp c id ph e H2 fun v _ => k v H := by
  cases c <;> simp only [pureOp, Bool.false_eq_true] at hp <;> rfl
theorem pure_any {P : Program} {nt : Nat} {o : Oper} {id : Nat} {ph : Phi} {e : Env} {H : Heap} {k : K} (hph : PhiOK P ph) (hp : pureOp (compOp P nt o) = true) (h : evOp (compOp P nt o) id ph e H k = 1) : ∃ v, (∀ H2, OpS P nt o e H2 v H2) ∧ k v H = 1 := by
  rcases sel_pure (P := P) (nt := nt) (id := id) (ph := ph) (e := e) hp H with ⟨v, hv⟩ | hv
  · have hv' : ∀ k : V → R, (evOp (compOp P nt o) id ph e H fun v _ => k v) = k v := hv
    refine ⟨v, fun H2 => ?_, ?_⟩
    · classical
      have h2 : evOp (compOp P nt o) id ph e H2 (fun v' H' => if v' = v ∧ H' = H2 then 1 else 0) = 1 := by
        rw [pure_heap hp H2 H]
        exact (hv' (fun v' => if v' = v ∧ H2 = H2 then 1 else 0)).trans (if_pos ⟨rfl, rfl⟩)
      obtain ⟨v', H', h3, h4⟩ := evOp_sound hph h2
      have h4' : (if v' = v ∧ H' = H2 then 1 else 0) = 1 := h4
      split at h4'
      · rename_i h5
        obtain ⟨rfl, rfl⟩ := h5
        exact h3
      · exact absurd h4' (by decide)
    · rw [pure_heap hp H H] at h
      exact (hv' (fun v => k v H)).symm.trans h
  · rw [pure_heap hp H H] at h
    exact absurd h (hv _)
end Go.Ev
