/- General words on worlds: blocks known whole, and what a call may have changed. Plain lemmas on the model's worlds, no program in sight. -/
import Derived.WalkKit
import Derived.ProofKit
import Derived.Laws.NewBlocks
import Derived.Deep.QuietTactic
namespace Go.Wd
open Go.RowKit

/-- A block of cells known whole, nothing of it frozen. -/
def Own (w : World) (b : Nat) (cs : Array Value) (t : TypeId) : Prop := w.heap[b]? = some (.cells cs t (0, 0))

theorem Own.lt {w : World} {b : Nat} {cs : Array Value} {t : TypeId} (h : Own w b cs t) : b < w.heap.size := (Array.getElem?_eq_some_iff.1 h).1

theorem Own.cell {w : World} {b : Nat} {cs : Array Value} {t : TypeId} (h : Own w b cs t) (i : Nat) : w.cell? ⟨b, i, none⟩ = cs[i]? := by
  unfold Own at h; simp [World.cell?, h]

theorem Own.cell' {w : World} {b : Nat} {cs : Array Value} {t : TypeId} (h : Own w b cs t) {i : Nat} {v : Value} (hv : cs[i]? = some v) : w.cell? ⟨b, i, none⟩ = some v := (h.cell i).trans hv

theorem Own.free {w : World} {b : Nat} {cs : Array Value} {t : TypeId} (h : Own w b cs t) (i : Nat) : w.frozen? ⟨b, i, none⟩ = false := by
  unfold Own at h; simp [World.frozen?, h]

theorem Own.setCell {w : World} {b : Nat} {cs : Array Value} {t : TypeId} (h : Own w b cs t) (i : Nat) (v : Value) : Own (w.setCell ⟨b, i, none⟩ v) b (cs.setIfInBounds i v) t := by
  unfold Own at *
  simp only [World.setCell, Array.getElem?_modify, h]
  simp

theorem Own.setOther {w : World} {b : Nat} {cs : Array Value} {t : TypeId} (h : Own w b cs t) {a : Addr} (ha : a.block ≠ b) (v : Value) : Own (w.setCell a v) b cs t := by
  unfold Own at *
  simp only [World.setCell, Array.getElem?_modify]
  rw [if_neg ha]; exact h

theorem Own.new (w : World) (cs : Array Value) (t : TypeId) : Own (w.alloc (.cells cs t)) w.heap.size cs t := by
  unfold Own
  show (w.heap.push _)[w.heap.size]? = _
  simp

theorem Own.alloc {w : World} {b : Nat} {cs : Array Value} {t : TypeId} (h : Own w b cs t) (o : Obj) : Own (w.alloc o) b cs t := by
  have := h.lt
  unfold Own at *
  show (w.heap.push o)[b]? = _
  rw [Array.getElem?_push, if_neg (by omega)]; exact h

theorem Own.drewN {w : World} {b : Nat} {cs : Array Value} {t : TypeId} (h : Own w b cs t) (n : Nat) : Own (w.drewN n) b cs t := h
theorem Own.drew {w : World} {b : Nat} {cs : Array Value} {t : TypeId} (h : Own w b cs t) : Own w.drew b cs t := h

/-- What a call may have changed of what was there: the blocks of S alone. -/
structure Mod (S : Nat → Prop) (w w' : World) : Prop where
  os : w'.os = w.os
  tape : w'.tape = w.tape
  output : w'.output = w.output
  size : w.heap.size ≤ w'.heap.size
  block : ∀ k, k < w.heap.size → ¬ S k → w'.heap[k]? = w.heap[k]?

variable {S T : Nat → Prop} {w w1 w2 w' : World}
theorem Mod.refl (S : Nat → Prop) (w : World) : Mod S w w := ⟨rfl, rfl, rfl, Nat.le_refl _, fun _ _ _ => rfl⟩

theorem Mod.trans' (h : Mod S w w1) (k : Mod T w1 w2) (hT : ∀ i, i < w.heap.size → T i → S i) : Mod S w w2 :=
  ⟨k.os.trans h.os, k.tape.trans h.tape, k.output.trans h.output, Nat.le_trans h.size k.size, fun i hi hs =>
    (k.block i (Nat.lt_of_lt_of_le hi h.size) (fun ht => hs (hT i hi ht))).trans (h.block i hi hs)⟩

theorem Mod.trans (h : Mod S w w1) (k : Mod S w1 w2) : Mod S w w2 := h.trans' k fun _ _ h => h
theorem Mod.mono (h : Mod T w w1) (hT : ∀ i, i < w.heap.size → T i → S i) : Mod S w w1 := (Mod.refl S w).trans' h hT

theorem Mod.ofBelow (h : Below w.heap.size w w1) : Mod S w w1 := ⟨h.os, h.tape, h.output, h.size, fun k hk _ => h.block k hk⟩
theorem Mod.below (h : Mod S w w1) (hS : ∀ i, i < w.heap.size → ¬ S i) : Below w.heap.size w w1 := ⟨h.os, h.tape, h.output, h.size, fun k hk => h.block k hk (hS k hk)⟩
theorem Mod.belowB {B : Nat} (h : Mod S w w1) (hB : B ≤ w.heap.size) (hS : ∀ i, i < B → ¬ S i) : Below B w w1 := ⟨h.os, h.tape, h.output, h.size, fun k hk => h.block k (by omega) (hS k hk)⟩

theorem Mod.alloc (h : Mod S w w1) (o : Obj) : Mod S w (w1.alloc o) :=
  h.trans ⟨rfl, rfl, rfl, by simp, fun k hk _ => Below.heap_alloc _ _ _ hk⟩
theorem Mod.drewN (h : Mod S w w1) (n : Nat) : Mod S w (w1.drewN n) := h.trans ⟨rfl, rfl, rfl, Nat.le_refl _, fun _ _ _ => rfl⟩
theorem Mod.drew (h : Mod S w w1) : Mod S w w1.drew := h.trans ⟨rfl, rfl, rfl, Nat.le_refl _, fun _ _ _ => rfl⟩
theorem Mod.setCell (h : Mod S w w1) (a : Addr) (v : Value) (ha : a.block < w.heap.size → S a.block) : Mod S w (w1.setCell a v) :=
  h.trans' (T := fun k => k = a.block) ⟨rfl, rfl, rfl, by simp [World.setCell], fun k _ hk => Below.heap_setCell _ _ _ _ hk⟩ (by rintro i hi rfl; exact ha hi)

theorem Own.mod {b : Nat} {cs : Array Value} {t : TypeId} (h : Own w b cs t) (hm : Mod S w w') (hb : ¬ S b) : Own w' b cs t := (hm.block b h.lt hb).trans h

theorem setCell_drewN (w : World) (a : Addr) (v : Value) (n : Nat) : (w.drewN n).setCell a v = (w.setCell a v).drewN n := rfl
theorem alloc_drewN (w : World) (o : Obj) (n : Nat) : (w.drewN n).alloc o = (w.alloc o).drewN n := rfl
end Go.Wd
