/- MAPS. -/
import Derived.Test.YtaodjhgfhdncgaaGreatDoorEv16
import Derived.Laws.StructEq
set_option linter.unusedSectionVars false
set_option linter.unusedVariables false
set_option linter.unusedSimpArgs false
namespace Go.Ev
open Go.RowKit

section
variable {P : Program} {nt : Nat} {o : Oper} {id : Nat} {ph : Phi} {e : Env} {H : Heap} {k : K}

theorem s_makeMap {t : TypeId} (hop : o.op = .makeMap t none) (h : evOp (compOp P nt o) id ph e H k = 1) : Good P nt o e H k := by
  simp only [compOp, hop] at h
  have hnd : ∀ c, o.op ≠ .defer c := by simp [hop]
  have h' : (hNew H (.map []) fun b H => k (.map b) H) = 1 := h
  obtain ⟨H', h1, h2⟩ := hNew_ok h'
  refine ⟨_, _, OpS.of_run hnd fun base w0 rho w a hp ho => ?_, h1⟩
  obtain ⟨p1, p2⟩ := hp.alloc (w' := w.alloc (.map #[] 0)) (o := .map #[] 0) h2.n h2.wlo h2.get h2.oth trivial ⟨rfl, rfl, rfl⟩ (by simp) (World.alloc_heap_new w _) (fun j hj => Below.heap_alloc _ _ _ hj) ⟨#[], 0, [], rfl, List.Perm.refl _, ⟨List.nodup_nil, fun x h => by cases h⟩, ⟨List.nodup_nil, fun x h => by cases h⟩, by simp only [List.map_nil, VRs], by simp only [List.map_nil, VRs]⟩
  exact ⟨.map (some w.heap.size), w.alloc (.map #[] 0), by simp [execOp, hop, Instr.makeMap], _, by simp only [VR]; exact ⟨_, rfl, by rw [h2.n]; omega, fun _ => by simp⟩, p1, p2⟩

def KeyD (ks : Bool) (d : TypeDesc) : Prop := (ks = false ∧ ∃ k, d = .int k) ∨ (ks = true ∧ d = .string)
theorem keyT_ok {t : TypeId} {ks : Bool} (h : keyT P t = some ks) : ∃ d, P.underlying t = some d ∧ KeyD ks d := by
  unfold keyT at h
  split at h
  · rename_i q hu; cases h; exact ⟨_, hu, Or.inl ⟨rfl, q, rfl⟩⟩
  · rename_i hu; cases h; exact ⟨_, hu, Or.inr ⟨rfl, rfl⟩⟩
  · cases h

/-- Keys of the kind that a map asks. -/
def KdK (ks : Bool) (x y : V) : Prop := (ks = false ∧ ∃ k a b, x = .int k a ∧ y = .int k b) ∨ (ks = true ∧ ∃ l a m b, x = .str l a ∧ y = .str m b)
theorem KdK.kd {ks : Bool} {x y : V} (h : KdK ks x y) : Kd x y := h.imp (fun h => h.2) (fun h => h.2)
theorem KdK.trans {ks : Bool} {x y z : V} (h : KdK ks x y) (k : Kd y z) : KdK ks x z := by
  rcases h with ⟨h, q, a, b, rfl, rfl⟩ | ⟨h, l, a, m, b, rfl, rfl⟩ <;> rcases k with ⟨q', a', b', e, rfl⟩ | ⟨l', a', m', b', e, rfl⟩ <;> cases e
  · exact Or.inl ⟨h, _, _, _, rfl, rfl⟩
  · exact Or.inr ⟨h, _, _, _, _, rfl, rfl⟩
theorem Kd.symm {x y : V} (h : Kd x y) : Kd y x := by
  rcases h with ⟨q, a, b, rfl, rfl⟩ | ⟨l, a, m, b, rfl, rfl⟩
  · exact Or.inl ⟨_, _, _, rfl, rfl⟩
  · exact Or.inr ⟨_, _, _, _, rfl, rfl⟩
theorem KdK.self {ks : Bool} {x y : V} (h : KdK ks x y) : Kd x x := by
  rcases h with ⟨h, q, a, b, rfl, rfl⟩ | ⟨h, l, a, m, b, rfl, rfl⟩
  · exact Or.inl ⟨_, _, _, rfl, rfl⟩
  · exact Or.inr ⟨_, _, _, _, rfl, rfl⟩

theorem keyEq_ok {ks : Bool} {x y : V} {f : Bool → R} (h : keyEq id ks x y f = 1) : ∃ b, f b = 1 ∧ (b = true → x = y) ∧ (b = false → x ≠ y) ∧ KdK ks x y := by
  cases x <;> first | exact (no_ne h).elim | skip
  · rename_i k1 a
    have h' : vInt id y (fun k2 b => ifB ks (no _) (ifB (Nat.beq k1 k2) (f (Nat.beq a b)) (no _))) = 1 := h
    obtain ⟨k2, b, rfl, h1⟩ := vInt_ok h'
    rcases ifB_or h1 with ⟨_, h2⟩ | ⟨hks, h2⟩
    · exact (no_ne h2).elim
    obtain ⟨h3, h4⟩ := ifB_no h2
    have := beq_of h3
    subst this
    refine ⟨_, h4, fun hb => by rw [beq_of hb], fun hb e => ?_, Or.inl ⟨hks, _, _, _, rfl, rfl⟩⟩
    cases e
    rw [beq_dec] at hb
    simp at hb
  · rename_i l1 a
    have h' : vStr id y (fun l2 b => ifB ks (ifB (Nat.beq l1 l2) (f (Nat.beq a b)) (f false)) (no _)) = 1 := h
    obtain ⟨l2, b, rfl, h1⟩ := vStr_ok h'
    obtain ⟨hks, h2⟩ := ifB_no h1
    have hf : f (decide (l1 = l2) && decide (a = b)) = 1 := by
      rcases ifB_or h2 with ⟨h3, h4⟩ | ⟨h3, h4⟩
      · rw [beq_dec] at h3 h4
        rw [h3]; exact h4
      · rw [beq_dec] at h3
        rw [h3]; exact h4
    refine ⟨_, hf, fun hb => by simp at hb; rw [hb.1, hb.2], fun hb e => ?_, Or.inr ⟨hks, _, _, _, _, rfl, rfl⟩⟩
    cases e
    simp at hb

/-- What the model says of two keys. -/
theorem key_same {ks : Bool} {x y : V} (hk : KdK ks x y) {m : M} {cx cy : Value} {d : TypeDesc} (vx : VR m x cx) (vy : VR m y cy) (hd : KeyD ks d) : (x = y → Instr.sameNow d cx cy = some true ∧ Instr.sameBits 10000 cy cx = true) ∧ (x ≠ y → Instr.sameNow d cx cy = some false) := by
  rcases hk with ⟨rfl, q, a, b, rfl, rfl⟩ | ⟨rfl, l1, a, l2, b, rfl, rfl⟩
  · simp only [VR] at vx vy
    rw [vx.1, vy.1]
    rcases hd with ⟨_, q2, rfl⟩ | ⟨h, _⟩
    · refine ⟨fun e => ?_, fun e => ?_⟩
      · cases e
        refine ⟨by simp [Instr.sameNow], ?_⟩
        show Instr.sameBits (9999 + 1) _ _ = true
        simp [Instr.sameBits]
      · have hab : a ≠ b := fun h => e (by rw [h])
        have : toI (kKind q) a ≠ toI (kKind q) b := fun h => hab (toI_inj _ vx.2.1 vy.2.1 h)
        simp only [Instr.sameNow, if_true]
        simp [this]
    · cases h
  · simp only [VR] at vx vy
    rw [vx.1, vy.1]
    rcases hd with ⟨h, _⟩ | ⟨_, rfl⟩
    · cases h
    · refine ⟨fun e => ?_, fun e => ?_⟩
      · cases e
        have hs : ((⟨(sbytes l1 a).toArray⟩ : ByteArray) == ⟨(sbytes l1 a).toArray⟩) = true := by rw [beq_toListBytes]; exact beq_self_eq_true _
        refine ⟨by simp only [Instr.sameNow, hs], ?_⟩
        show Instr.sameBits (9999 + 1) _ _ = true
        simp only [Instr.sameBits]
        exact hs
      · have : ((⟨(sbytes l1 a).toArray⟩ : ByteArray) == ⟨(sbytes l2 b).toArray⟩) = false := by
          rw [beq_toListBytes, ByteArray.toList_eq, ByteArray.toList_eq, beq_eq_false_iff_ne]
          intro h
          have hl := congrArg List.length h
          simp [sbytes_length] at hl
          subst hl
          exact e (by rw [sbytes_inj vx.2 vy.2 (by simpa using h)])
        simp only [Instr.sameNow, this]

/-- A map's entries. -/
def Ents (m : M) (es : List (V × V)) (ents : List MapEntry) : Prop := VRs m (es.map (·.1)) (ents.map (·.key)) ∧ VRs m (es.map (·.2)) (ents.map (·.val))
theorem Ents.cons {m : M} {p : V × V} {es : List (V × V)} {ents : List MapEntry} (h : Ents m (p :: es) ents) : ∃ en r, ents = en :: r ∧ VR m p.1 en.key ∧ VR m p.2 en.val ∧ Ents m es r := by
  obtain ⟨h1, h2⟩ := h
  simp only [List.map_cons, VRs] at h1 h2
  obtain ⟨c, r, h3, h4, h5⟩ := h1
  obtain ⟨c', r', h6, h7, h8⟩ := h2
  cases ents with
  | nil => cases h3
  | cons en r0 =>
    simp only [List.map_cons, List.cons.injEq] at h3 h6
    obtain ⟨rfl, rfl⟩ := h3
    obtain ⟨rfl, rfl⟩ := h6
    exact ⟨en, r0, rfl, h4, h7, h5, h8⟩
theorem Ents.mk {m : M} {p : V × V} {es : List (V × V)} {en : MapEntry} {r : List MapEntry} (h1 : VR m p.1 en.key) (h2 : VR m p.2 en.val) (h : Ents m es r) : Ents m (p :: es) (en :: r) := by
  refine ⟨?_, ?_⟩ <;> simp only [List.map_cons, VRs]
  · exact ⟨_, _, rfl, h1, h.1⟩
  · exact ⟨_, _, rfl, h2, h.2⟩
theorem Ents.nil {m : M} {ents : List MapEntry} (h : Ents m [] ents) : ents = [] := by
  have := h.1
  simp only [List.map_nil, VRs] at this
  simpa using this

/-- Entries one by one. -/
theorem Ents.get {m : M} : ∀ {es : List (V × V)} {ents : List MapEntry}, Ents m es ents → ∀ {i : Nat} {p : V × V}, es[i]? = some p → ∃ en, ents[i]? = some en ∧ VR m p.1 en.key ∧ VR m p.2 en.val
  | [], _, _, i, p, hi => by simp at hi
  | q :: es, ents, h, i, p, hi => by
    obtain ⟨en, r, rfl, e1, e2, e3⟩ := h.cons
    cases i with
    | zero => simp at hi; subst hi; exact ⟨en, rfl, e1, e2⟩
    | succ i => simp only [List.getElem?_cons_succ] at hi ⊢; exact Ents.get e3 hi
theorem Ents.length {m : M} {es : List (V × V)} {ents : List MapEntry} (h : Ents m es ents) : ents.length = es.length := by simpa using h.1.length
theorem Ents.set {m : M} {p : V × V} {en : MapEntry} (h1 : VR m p.1 en.key) (h2 : VR m p.2 en.val) : ∀ {es : List (V × V)} {ents : List MapEntry} {i : Nat}, Ents m es ents → Ents m (es.set i p) (ents.set i en)
  | [], _, _, h => by rw [h.nil]; exact ⟨by simp only [List.set_nil, List.eraseIdx_nil, List.map_nil, VRs], by simp only [List.set_nil, List.eraseIdx_nil, List.map_nil, VRs]⟩
  | q :: es, ents, i, h => by
    obtain ⟨e, r, rfl, e1, e2, e3⟩ := h.cons
    cases i with
    | zero => exact Ents.mk h1 h2 e3
    | succ i => exact Ents.mk e1 e2 (Ents.set h1 h2 e3)
theorem Ents.erase {m : M} : ∀ {es : List (V × V)} {ents : List MapEntry} {i : Nat}, Ents m es ents → Ents m (es.eraseIdx i) (ents.eraseIdx i)
  | [], _, _, h => by rw [h.nil]; exact ⟨by simp only [List.set_nil, List.eraseIdx_nil, List.map_nil, VRs], by simp only [List.set_nil, List.eraseIdx_nil, List.map_nil, VRs]⟩
  | q :: es, ents, i, h => by
    obtain ⟨e, r, rfl, e1, e2, e3⟩ := h.cons
    cases i with
    | zero => exact e3
    | succ i => exact Ents.mk e1 e2 (Ents.erase e3)
theorem Ents.snoc {m : M} {p : V × V} {en : MapEntry} (h1 : VR m p.1 en.key) (h2 : VR m p.2 en.val) : ∀ {es : List (V × V)} {ents : List MapEntry}, Ents m es ents → Ents m (es ++ [p]) (ents ++ [en])
  | [], _, h => by rw [h.nil]; exact Ents.mk h1 h2 ⟨by simp only [List.map_nil, VRs], by simp only [List.map_nil, VRs]⟩
  | q :: es, ents, h => by
    obtain ⟨e, r, rfl, e1, e2, e3⟩ := h.cons
    exact Ents.mk e1 e2 (Ents.snoc h1 h2 e3)

/-- A key that is there is found. -/
theorem find_hit {ks : Bool} {x v : V} {m : M} {cx : Value} {d : TypeDesc} (vx : VR m x cx) (hd : KeyD ks d) : ∀ {es : List (V × V)} {ents : List MapEntry} (j : Nat), (x, v) ∈ es → (es.map (·.1)).Nodup → (∀ p ∈ es, KdK ks x p.1) → Ents m es ents →
    ∃ i cv en, Instr.findNow d cx ents j = some (some (j + i, cv)) ∧ VR m v cv ∧ es[i]? = some (x, v) ∧ ents[i]? = some en ∧ Instr.sameBits 10000 en.key cx = true
  | [], _, _, h, _, _, _ => by cases h
  | (a, u) :: es, ents, j, h, hn, hk, he => by
    obtain ⟨en, r, rfl, e1, e2, e3⟩ := he.cons
    obtain ⟨g1, g2⟩ := key_same (hk _ (List.mem_cons_self ..)) vx e1 hd
    rw [List.map_cons, List.nodup_cons] at hn
    rcases List.mem_cons.1 h with h | h
    · cases h
      obtain ⟨g3, g4⟩ := g1 rfl
      exact ⟨0, en.val, en, by simp only [Instr.findNow, g3, Nat.add_zero], e2, rfl, rfl, g4⟩
    · have hne : x ≠ a := fun e => hn.1 (List.mem_map.2 ⟨(x, v), h, e⟩)
      obtain ⟨i, cv, en', g3, g4, g5, g6, g7⟩ := find_hit vx hd (j + 1) h hn.2 (fun p hp => hk p (List.mem_cons_of_mem _ hp)) e3
      exact ⟨i + 1, cv, en', by simp only [Instr.findNow, g2 hne, g3]; rw [show j + 1 + i = j + (i + 1) by omega], g4, by simpa using g5, by simpa using g6, g7⟩
/-- One that isn't is not. -/
theorem find_miss {ks : Bool} {x : V} {m : M} {cx : Value} {d : TypeDesc} (vx : VR m x cx) (hd : KeyD ks d) : ∀ {es : List (V × V)} {ents : List MapEntry} (j : Nat), (∀ p ∈ es, p.1 ≠ x) → (∀ p ∈ es, KdK ks x p.1) → Ents m es ents → Instr.findNow d cx ents j = some none
  | [], _, _, _, _, he => by rw [he.nil]; rfl
  | (a, u) :: es, ents, j, h, hk, he => by
    obtain ⟨en, r, rfl, e1, e2, e3⟩ := he.cons
    obtain ⟨_, g2⟩ := key_same (hk _ (List.mem_cons_self ..)) vx e1 hd
    have hne : x ≠ a := fun e => h _ (List.mem_cons_self ..) e.symm
    simp only [Instr.findNow, g2 hne, find_miss vx hd (j + 1) (fun p hp => h p (List.mem_cons_of_mem _ hp)) (fun p hp => hk p (List.mem_cons_of_mem _ hp)) e3]

theorem KeysOK.tail {a : V} {l : List V} (h : KeysOK (a :: l)) : KeysOK l := ⟨(List.nodup_cons.1 h.1).2, fun x hx y hy => h.2 x (List.mem_cons_of_mem _ hx) y (List.mem_cons_of_mem _ hy)⟩
theorem KeysOK.perm {l m : List V} (h : KeysOK l) (hp : l.Perm m) : KeysOK m := ⟨hp.nodup_iff.1 h.1, fun x hx y hy => h.2 x (hp.mem_iff.2 hx) y (hp.mem_iff.2 hy)⟩

theorem kd_all {ks : Bool} {x : V} {es : List (V × V)} (h : es = [] ∨ ∃ p ∈ es, KdK ks x p.1) (ho : KeysOK (es.map (·.1))) : ∀ p ∈ es, KdK ks x p.1 := fun p hp => by
  rcases h with rfl | ⟨q, hq, h⟩
  · cases hp
  · exact h.trans (ho.2 q.1 (List.mem_map.2 ⟨q, hq, rfl⟩) p.1 (List.mem_map.2 ⟨p, hp, rfl⟩))

/-- A look into a map. -/
theorem lookL_ok {ks : Bool} {x : V} {f : V → R} {z : R} : ∀ {es : List (V × V)}, lookL id ks es x f z = 1 → (es = [] ∨ ∃ p ∈ es, KdK ks x p.1) ∧ ((∃ v, f v = 1 ∧ (x, v) ∈ es) ∨ (z = 1 ∧ ∀ p ∈ es, p.1 ≠ x))
  | [], h => ⟨Or.inl rfl, Or.inr ⟨h, fun p h => by cases h⟩⟩
  | (a, v) :: es, h => by
    have h' : keyEq id ks x a (fun b => ifB b (f v) (lookL id ks es x f z)) = 1 := h
    obtain ⟨b, h1, h2, h3, h4⟩ := keyEq_ok h'
    refine ⟨Or.inr ⟨_, List.mem_cons_self .., h4⟩, ?_⟩
    rcases ifB_or h1 with ⟨rfl, h5⟩ | ⟨rfl, h5⟩
    · exact Or.inl ⟨v, h5, by rw [h2 rfl]; exact List.mem_cons_self ..⟩
    · rcases (lookL_ok h5).2 with ⟨v', h6, h7⟩ | ⟨h6, h7⟩
      · exact Or.inl ⟨v', h6, List.mem_cons_of_mem _ h7⟩
      · exact Or.inr ⟨h6, fun p hp => (List.mem_cons.1 hp).elim (fun e => e ▸ (h3 rfl).symm) (h7 p)⟩

theorem run_checkKey {b : Bool} {t : TypeId} {d : TypeDesc} {ks : Bool} {c : Value} {w : World} (hu : P.underlying t = some d) (hd : KeyD ks d) : (Instr.checkKey b 10000 t c).run P w = .ok () w := by
  show (Instr.checkKey b (9999 + 1) t c).run P w = _
  generalize 9999 = dd
  rcases hd with ⟨_, q, rfl⟩ | ⟨_, rfl⟩ <;> simp only [Instr.checkKey, Sem.run_bind, run_underlying hu, Result.andThen_ok, Sem.run_pure]
theorem run_findKey {t : TypeId} {d : TypeDesc} {c : Value} {ents : List MapEntry} {r : Option (Nat × Value)} {w : World} (hu : P.underlying t = some d) (h : Instr.findNow d c ents 0 = some r) : (Instr.findKey t c ents).run P w = .ok r w := by
  simp [Instr.findKey, run_underlying hu, h]
theorem PR.map_at {base : Nat} {w0 w : World} {rho : Nat → Option Nat} (hp : PR P base w0 rho H w) {b c : Nat} {es : List (V × V)} (hb : H.get b = .map es) (hm : (mu rho H w).b b c) : rho b = some c ∧ ∃ ents clock es', w.heap[c]? = some (.map ents clock) ∧ es'.Perm es ∧ KeysOK (es.map (·.1)) ∧ Ents (mu rho H w) es' ents.toList ∧ Stamps ents clock := by
  have hr : rho b = some c := hm.2 (by rw [hb]; trivial)
  obtain ⟨o, h1, h2⟩ := hp.blk b c hr
  rw [hb] at h2
  obtain ⟨ents, clock, es', rfl, h5, h6, h7, h3, h4⟩ := h2
  exact ⟨hr, ents, clock, es', h1, h5, h6, ⟨h3, h4⟩, h7⟩
theorem keys_perm {es es' : List (V × V)} (h : es'.Perm es) (ho : KeysOK (es.map (·.1))) : KeysOK (es'.map (·.1)) := ho.perm (h.symm.map _)
theorem run_getObj {c : Nat} {ob : Obj} {w : World} (h : w.heap[c]? = some ob) (hn : ∀ a b d, ob ≠ .cells a b d) : (getObj c).run P w = .ok ob w := by
  unfold getObj
  unfold Sem.run
  rw [h]
  cases ob <;> first | rfl | exact absurd rfl (hn _ _ _)
theorem run_setObj {c : Nat} {ob o' : Obj} {w : World} (h : w.heap[c]? = some ob) (hn : ∀ a b d, ob ≠ .cells a b d) : (setObj c o').run P w = .ok () { w with heap := w.heap.setIfInBounds c o' } := by
  unfold setObj
  unfold Sem.run
  rw [h]
  cases ob <;> first | rfl | exact absurd rfl (hn _ _ _)

theorem zeroV_ok {t : TypeId} {z : V} (h : zeroV P t = some z) : ∃ i zv, P.info? t = some i ∧ i.zero = some zv ∧ ∀ m, VR m z zv := by
  unfold zeroV at h
  split at h
  · rename_i i hi
    split at h
    · rename_i zv hz
      exact ⟨i, zv, hi, hz, fun m => constV_ok h⟩
    · cases h
  · cases h

theorem s_lookup {t : TypeId} {mm x : Operand} {ok : Bool} (hop : o.op = .lookup t mm x ok) (h : evOp (compOp P nt o) id ph e H k = 1) : Good P nt o e H k := by
  simp only [compOp, hop] at h
  have mem : mm ∈ o.op.operands ∧ x ∈ o.op.operands := by simp [hop, Op.operands]
  have hnd : ∀ c, o.op ≠ .defer c := by simp [hop]
  split at h
  · rename_i m' x' kt el hm hx hu
    split at h
    · rename_i z ks hz hks
      obtain ⟨d, hd1, hd2⟩ := keyT_ok hks
      obtain ⟨i, zv, hi, hzv, hzr⟩ := zeroV_ok hz
      have h' : eLook ks z ok m' x' id ph e H k = 1 := h
      unfold eLook at h'
      rw [getA_eq, getA_eq] at h'
      have hzrun : ∀ w : World, (zeroValue el).run P w = .ok zv w := fun w => by simp [zeroValue, typeInfo, hi, hzv]
      -- nothing there
      have fin0 : ifB ok (k (.tup [z, .bool false]) H) (k z H) = 1 → (∀ (m : M) (w : World) (ac : Act), OR m nt e ac o → (execOp ac.eval o).run P w = .ok (.value (if ok then .tuple #[zv, .bool false] else zv)) w) → Good P nt o e H k := by
        intro hk hrun
        rcases ifB_or hk with ⟨rfl, h1⟩ | ⟨rfl, h1⟩
        · exact ⟨_, _, OpS.of_pure hnd fun m w ac ho => ⟨_, hrun m w ac ho, by simp only [if_true, VR]; exact ⟨_, rfl, by simp only [VRs]; exact ⟨_, _, rfl, hzr m, _, _, rfl, by simp only [VR], rfl⟩⟩⟩, h1⟩
        · exact ⟨_, _, OpS.of_pure hnd fun m w ac ho => ⟨_, hrun m w ac ho, by simpa using hzr m⟩, h1⟩
      rcases vMapN_ok h' with ⟨b, hb, h1⟩ | ⟨hb, h1⟩
      · rw [hGet_eq] at h1
        obtain ⟨es, hes, h2⟩ := bMap_ok h1
        obtain ⟨hkd, h2⟩ := lookL_ok h2
        rcases h2 with ⟨v, h3, h4⟩ | ⟨h3, h4⟩
        · have hrun : ∀ (base : Nat) (w0 : World) (rho : Nat → Option Nat) (w : World) (a : Act), PR P base w0 rho H w → OR (mu rho H w) nt e a o → ∃ cv, VR (mu rho H w) v cv ∧ (execOp a.eval o).run P w = .ok (.value (if ok then .tuple #[cv, .bool true] else cv)) w := by
            intro base w0 rho w a hp ho
            have vm := ho mm mem.1 m' hm
            rw [hb] at vm
            simp only [VR] at vm
            obtain ⟨c, hc, hmu⟩ := vm
            obtain ⟨_, ents, clock, es', g1, gp, go, g2, _⟩ := hp.map_at hes hmu
            have hka := kd_all hkd go
            obtain ⟨i', cv, en, g3, g4, _⟩ := find_hit (ho x mem.2 x' hx) hd2 0 (gp.mem_iff.2 h4) (keys_perm gp go).1 (fun p hp => hka p (gp.mem_iff.1 hp)) g2
            refine ⟨cv, g4, ?_⟩
            simp only [execOp, hop, hc, Instr.lookup, Sem.run_bind, run_underlying hu, Result.andThen_ok, run_getObj g1 (by simp), Sem.run_pure, run_checkKey hd1 hd2, run_findKey hd1 g3]
          rcases ifB_or h3 with ⟨rfl, h5⟩ | ⟨rfl, h5⟩
          · refine ⟨_, _, OpS.of_run hnd fun base w0 rho w a hp ho => ?_, h5⟩
            obtain ⟨cv, g1, g2⟩ := hrun base w0 rho w a hp ho
            exact ⟨_, w, g2, rho, by simp only [if_true, VR]; exact ⟨_, rfl, by simp only [VRs]; exact ⟨_, _, rfl, g1, _, _, rfl, by simp only [VR], rfl⟩⟩, hp, Ext.refl hp.lt⟩
          · refine ⟨_, _, OpS.of_run hnd fun base w0 rho w a hp ho => ?_, h5⟩
            obtain ⟨cv, g1, g2⟩ := hrun base w0 rho w a hp ho
            exact ⟨_, w, g2, rho, by simpa using g1, hp, Ext.refl hp.lt⟩
        · -- the map has it not
          have hrun : ∀ (base : Nat) (w0 : World) (rho : Nat → Option Nat) (w : World) (a : Act), PR P base w0 rho H w → OR (mu rho H w) nt e a o → (execOp a.eval o).run P w = .ok (.value (if ok then .tuple #[zv, .bool false] else zv)) w := by
            intro base w0 rho w a hp ho
            have vm := ho mm mem.1 m' hm
            rw [hb] at vm
            simp only [VR] at vm
            obtain ⟨c, hc, hmu⟩ := vm
            obtain ⟨_, ents, clock, es', g1, gp, go, g2, _⟩ := hp.map_at hes hmu
            have hka := kd_all hkd go
            have g3 := find_miss (ho x mem.2 x' hx) hd2 0 (fun p hp => h4 p (gp.mem_iff.1 hp)) (fun p hp => hka p (gp.mem_iff.1 hp)) g2
            simp only [execOp, hop, hc, Instr.lookup, Sem.run_bind, run_underlying hu, Result.andThen_ok, run_getObj g1 (by simp), Sem.run_pure, run_checkKey hd1 hd2, run_findKey hd1 g3, hzrun]
          rcases ifB_or h3 with ⟨rfl, h5⟩ | ⟨rfl, h5⟩
          · exact ⟨_, _, OpS.of_run hnd fun base w0 rho w a hp ho => ⟨_, w, hrun base w0 rho w a hp ho, rho, by simp only [if_true, VR]; exact ⟨_, rfl, by simp only [VRs]; exact ⟨_, _, rfl, hzr _, _, _, rfl, by simp only [VR], rfl⟩⟩, hp, Ext.refl hp.lt⟩, h5⟩
          · exact ⟨_, _, OpS.of_run hnd fun base w0 rho w a hp ho => ⟨_, w, hrun base w0 rho w a hp ho, rho, by simpa using hzr _, hp, Ext.refl hp.lt⟩, h5⟩
      · refine fin0 h1 fun m w ac ho => ?_
        have vm := ho mm mem.1 m' hm
        rw [hb] at vm
        simp only [VR] at vm
        simp only [execOp, hop, vm, Instr.lookup, Sem.run_bind, run_underlying hu, Result.andThen_ok, Sem.run_pure, run_checkKey hd1 hd2, run_findKey hd1 (show Instr.findNow d (ac.eval x) (#[] : Array MapEntry).toList 0 = some none from rfl), hzrun]
    · exact (no_ne h).elim
  · exact (no_ne h).elim

/-- Setting. -/
theorem setL_ok {ks : Bool} {x y : V} : ∀ {es : List (V × V)} {f : List (V × V) → R}, setL id ks es x y f = 1 → ∃ es2, f es2 = 1 ∧ (es = [] ∨ ∃ p ∈ es, KdK ks x p.1) ∧ ((∃ v rest, es.Perm ((x, v) :: rest) ∧ es2.Perm ((x, y) :: rest)) ∨ ((∀ p ∈ es, p.1 ≠ x) ∧ es2.Perm ((x, y) :: es)))
  | [], f, h => ⟨_, h, Or.inl rfl, Or.inr ⟨fun p h => (by cases h), List.Perm.refl _⟩⟩
  | (a, v) :: es, f, h => by
    have h' : keyEq id ks x a (fun b => ifB b (f ((a, y) :: es)) (setL id ks es x y fun r => f ((a, v) :: r))) = 1 := h
    obtain ⟨b, h1, h2, h3, h4⟩ := keyEq_ok h'
    rcases ifB_or h1 with ⟨rfl, h5⟩ | ⟨rfl, h5⟩
    · obtain rfl := h2 rfl
      exact ⟨_, h5, Or.inr ⟨_, List.mem_cons_self .., h4⟩, Or.inl ⟨v, es, List.Perm.refl _, List.Perm.refl _⟩⟩
    · obtain ⟨es2, h6, _, h7⟩ := setL_ok h5
      refine ⟨_, h6, Or.inr ⟨_, List.mem_cons_self .., h4⟩, ?_⟩
      rcases h7 with ⟨u, rest, h8, h9⟩ | ⟨h8, h9⟩
      · exact Or.inl ⟨u, (a, v) :: rest, (h8.cons _).trans (List.Perm.swap ..), (h9.cons _).trans (List.Perm.swap ..)⟩
      · exact Or.inr ⟨fun p hp => (List.mem_cons.1 hp).elim (fun e => e ▸ (h3 rfl).symm) (h8 p), (h9.cons _).trans (List.Perm.swap ..)⟩

theorem delL_ok {ks : Bool} {x : V} : ∀ {es : List (V × V)} {f : List (V × V) → R}, delL id ks es x f = 1 → ∃ es2, f es2 = 1 ∧ (es = [] ∨ ∃ p ∈ es, KdK ks x p.1) ∧ ((∃ v, es.Perm ((x, v) :: es2)) ∨ ((∀ p ∈ es, p.1 ≠ x) ∧ es2 = es))
  | [], f, h => ⟨_, h, Or.inl rfl, Or.inr ⟨fun p h => (by cases h), rfl⟩⟩
  | (a, v) :: es, f, h => by
    have h' : keyEq id ks x a (fun b => ifB b (f es) (delL id ks es x fun r => f ((a, v) :: r))) = 1 := h
    obtain ⟨b, h1, h2, h3, h4⟩ := keyEq_ok h'
    rcases ifB_or h1 with ⟨rfl, h5⟩ | ⟨rfl, h5⟩
    · obtain rfl := h2 rfl
      exact ⟨_, h5, Or.inr ⟨_, List.mem_cons_self .., h4⟩, Or.inl ⟨v, List.Perm.refl _⟩⟩
    · obtain ⟨es2, h6, _, h7⟩ := delL_ok h5
      refine ⟨_, h6, Or.inr ⟨_, List.mem_cons_self .., h4⟩, ?_⟩
      rcases h7 with ⟨u, h8⟩ | ⟨h8, rfl⟩
      · exact Or.inl ⟨u, (h8.cons _).trans (List.Perm.swap ..)⟩
      · exact Or.inr ⟨fun p hp => (List.mem_cons.1 hp).elim (fun e => e ▸ (h3 rfl).symm) (h8 p), rfl⟩

theorem perm_erase {α : Type} : ∀ {l : List α} {i : Nat} {a : α}, l[i]? = some a → l.Perm (a :: l.eraseIdx i)
  | [], i, a, h => by simp at h
  | x :: l, 0, a, h => by
    simp at h
    subst h
    exact List.Perm.refl _
  | x :: l, i + 1, a, h => ((perm_erase (l := l) (i := i) (by simpa using h)).cons x).trans (List.Perm.swap ..)
theorem perm_set {α : Type} {l : List α} {i : Nat} {a b : α} (h : l[i]? = some a) : (l.set i b).Perm (b :: l.eraseIdx i) := by
  obtain ⟨hlt, _⟩ := List.getElem?_eq_some_iff.1 h
  have h1 : (l.set i b)[i]? = some b := by simp [hlt]
  have := perm_erase h1
  rwa [List.eraseIdx_set_eq] at this
theorem keys_swap {x v y : V} {es es2 rest : List (V × V)} (h1 : es.Perm ((x, v) :: rest)) (h2 : es2.Perm ((x, y) :: rest)) (ho : KeysOK (es.map (·.1))) : KeysOK (es2.map (·.1)) := by
  have h3 : (es.map (·.1)).Perm (x :: rest.map (·.1)) := h1.map _
  have h4 : (es2.map (·.1)).Perm (x :: rest.map (·.1)) := h2.map _
  exact ho.perm (h3.trans h4.symm)
theorem keys_new {ks : Bool} {x y : V} {es es2 : List (V × V)} (h1 : ∀ p ∈ es, p.1 ≠ x) (h2 : es2.Perm ((x, y) :: es)) (hx : Kd x x) (hk : ∀ p ∈ es, KdK ks x p.1) (ho : KeysOK (es.map (·.1))) : KeysOK (es2.map (·.1)) := by
  have h4 : (es2.map (·.1)).Perm (x :: es.map (·.1)) := h2.map _
  refine KeysOK.perm ⟨List.nodup_cons.2 ⟨fun h => ?_, ho.1⟩, fun a ha b hb => ?_⟩ h4.symm
  · obtain ⟨p, hp, e⟩ := List.mem_map.1 h
    exact h1 p hp e
  · have hxb : ∀ c, c ∈ es.map (·.1) → Kd x c := fun c hc => by
      obtain ⟨p, hp, rfl⟩ := List.mem_map.1 hc
      exact (hk p hp).kd
    rcases List.mem_cons.1 ha with ea | ha <;> rcases List.mem_cons.1 hb with eb | hb
    · rw [ea, eb]; exact hx
    · rw [ea]; exact hxb _ hb
    · rw [eb]; exact (hxb _ ha).symm
    · exact ho.2 a ha b hb

theorem stamps_set {ents ents2 : Array MapEntry} {clock i : Nat} {en : MapEntry} {k v : Value} (hen : ents[i]? = some en) (h : Stamps ents clock) (h2 : ents2.toList = ents.toList.set i { en with key := k, val := v }) : Stamps ents2 clock := by
  have hm : (ents.toList.set i { en with key := k, val := v }).map (·.born) = ents.toList.map (·.born) := by
    refine List.ext_getElem? fun j => ?_
    rw [List.getElem?_map, List.getElem?_map, List.getElem?_set]
    have hen' : ents.toList[i]? = some en := by simpa using hen
    by_cases hij : i = j
    · subst hij
      have hlt : i < ents.toList.length := (List.getElem?_eq_some_iff.1 hen').1
      simp only [if_true, hlt, hen', Option.map_some]
    · rw [if_neg hij]
  refine ⟨by rw [h2, hm]; exact h.1, fun q hq => ?_⟩
  have : q.born ∈ ents.toList.map (·.born) := by rw [← hm, ← h2]; exact List.mem_map.2 ⟨q, hq, rfl⟩
  obtain ⟨q', hq', e⟩ := List.mem_map.1 this
  rw [← e]
  exact h.2 q' hq'
theorem stamps_push {ents : Array MapEntry} {clock : Nat} {k v : Value} (h : Stamps ents clock) : Stamps (ents.push { key := k, val := v, born := clock }) (clock + 1) := by
  unfold Stamps
  rw [Array.toList_push]
  refine ⟨?_, fun q hq => ?_⟩
  · rw [List.map_append, List.nodup_append]
    refine ⟨h.1, by simp, fun a ha b hb e => ?_⟩
    obtain ⟨q, hq, rfl⟩ := List.mem_map.1 ha
    have := h.2 q hq
    simp at hb
    omega
  · rcases List.mem_append.1 hq with hq | hq
    · have := h.2 q hq; omega
    · simp at hq; subst hq; exact Nat.lt_succ_self _
theorem stamps_erase {ents ents2 : Array MapEntry} {clock i : Nat} (h : Stamps ents clock) (h2 : ents2.toList = ents.toList.eraseIdx i) : Stamps ents2 clock := by
  have hs : (ents.toList.eraseIdx i).Sublist ents.toList := List.eraseIdx_sublist ..
  exact ⟨by rw [h2]; exact (hs.map _).nodup h.1, fun q hq => h.2 q (hs.subset (by rw [← h2]; exact hq))⟩

theorem PR.map_write {base : Nat} {w0 w : World} {rho : Nat → Option Nat} {H' : Heap} (hp : PR P base w0 rho H w) {b c : Nat} {es es2 es' : List (V × V)} {ents0 ents : Array MapEntry} {clock0 clock : Nat} (hb : H.get b = .map es) (hr : rho b = some c) (hw : w.heap[c]? = some (.map ents0 clock0)) (hS : SetTo H b (.map es2) H') (hperm : es'.Perm es2) (hok : KeysOK (es2.map (·.1))) (hst : Stamps ents clock) (he : Ents (mu rho H w) es' ents.toList) :
    PR P base w0 rho H' { w with heap := w.heap.setIfInBounds c (.map ents clock) } ∧ Ext rho H w rho H' { w with heap := w.heap.setIfInBounds c (.map ents clock) } := by
  have hlt : c < w.heap.size := (hp.dom b c hr).2.2.1
  exact hp.write (o := .map ents clock) hr (by rw [hb]; intro e; cases e) hS.n hS.wlo hS.wb hS.get hS.oth trivial ⟨rfl, rfl, rfl⟩ (by simp) (by simp [hlt]) (fun j hj => by simp [Array.getElem?_setIfInBounds_ne (Ne.symm hj)]) ⟨ents, clock, es', rfl, hperm, hok, hst, he.1, he.2⟩ (fun cs e fr h => by rw [hw] at h; cases h)

/-- A key: an integer, or a text. -/
theorem isKey_ok {x : V} {k : R} (h : isKey id x k = 1) : Kd x x ∧ k = 1 := by
  cases x <;> first | exact (no_ne h).elim | exact ⟨Or.inl ⟨_, _, _, rfl, rfl⟩, h⟩ | exact ⟨Or.inr ⟨_, _, _, _, rfl, rfl⟩, h⟩

theorem s_mapUpdate {t : TypeId} {mm x y : Operand} (hop : o.op = .mapUpdate t mm x y ∨ o.op = .insert t mm x y) (h : evOp (compOp P nt o) id ph e H k = 1) : Good P nt o e H k := by
  have hc : compOp P nt o = match compArg nt mm, compArg nt x, compArg nt y, P.underlying t with
    | some m, some x, some y, some (.map kt _) => (match keyT P kt with | some ks => .mset ks m x y | none => .bad)
    | _, _, _, _ => .bad := by rcases hop with h | h <;> simp only [compOp, h] <;> rfl
  rw [hc] at h
  have mem : mm ∈ o.op.operands ∧ x ∈ o.op.operands ∧ y ∈ o.op.operands := by rcases hop with h | h <;> simp [h, Op.operands]
  have hnd : ∀ c, o.op ≠ .defer c := by rcases hop with h | h <;> simp [h]
  split at h
  · rename_i m' x' y' kt el hm hx hy hu
    split at h
    · rename_i ks hks
      obtain ⟨d, hd1, hd2⟩ := keyT_ok hks
      have h' : eMset ks m' x' y' id ph e H k = 1 := h
      unfold eMset at h'
      rw [getA_eq, getA_eq, getA_eq] at h'
      obtain ⟨b, hb, h1⟩ := vMap_ok h'
      rw [hGet_eq] at h1
      obtain ⟨es, hes, h2⟩ := bMap_ok h1
      obtain ⟨hxs, h2⟩ := isKey_ok h2
      obtain ⟨es2, h3, hkd, h4⟩ := setL_ok h2
      obtain ⟨H', h5, h6⟩ := hSet_ok h3
      refine ⟨_, _, OpS.of_skip hnd fun base w0 rho w a hp ho => ?_, h5⟩
      have vm := ho mm mem.1 m' hm
      rw [hb] at vm
      simp only [VR] at vm
      obtain ⟨c, hcm, hmu⟩ := vm
      obtain ⟨hr, ents, clock, es', g1, gp, go, g2, gs⟩ := hp.map_at hes hmu
      have hka := kd_all hkd go
      have hka' : ∀ p ∈ es', KdK ks (pgetA x' e) p.1 := fun p hp => hka p (gp.mem_iff.1 hp)
      have vx := ho x mem.2.1 x' hx
      have vy := ho y mem.2.2 y' hy
      have hex : (execOp a.eval o).run P w = ((Instr.mapUpdate t (a.eval mm) (a.eval x) (a.eval y)).run P w).andThen fun _ w' => .ok .skip w' := by
        rcases hop with h | h <;> simp only [execOp, h, Sem.run_bind, Sem.run_pure]
      rcases h4 with ⟨v, rest, h7, h8⟩ | ⟨h7, h8⟩
      · obtain ⟨i, cv, en, f1, f2, f3, f4, f5⟩ := find_hit vx hd2 0 ((gp.trans h7).mem_iff.2 (List.mem_cons_self ..)) (keys_perm gp go).1 hka' g2
        have hen : ents[i]? = some en := by simpa using f4
        have hmod : (ents.modify i fun e => { e with key := a.eval x, val := a.eval y }).toList = ents.toList.set i { en with key := a.eval x, val := a.eval y } := by
          rw [Array.toList_modify]
          refine List.ext_getElem? fun k => ?_
          rw [List.getElem?_modify, List.getElem?_set]
          by_cases hik : i = k
          · subst hik
            have hlt : i < ents.toList.length := (List.getElem?_eq_some_iff.1 f4).1
            simp only [if_true, f4, Option.map_some, hlt]
            simp
          · simp [hik]
        obtain ⟨p1, p2⟩ := hp.map_write (ents := ents.modify i fun e => { e with key := a.eval x, val := a.eval y }) (clock := clock) (es' := es'.set i (pgetA x' e, pgetA y' e)) hes hr g1 h6
          ((perm_set f3).trans ((((perm_erase f3).symm.trans (gp.trans h7)).cons_inv.cons _).trans h8.symm)) (keys_swap h7 h8 go) (stamps_set hen gs hmod) (by rw [hmod]; exact Ents.set vx vy g2)
        refine ⟨_, ?_, rho, p1, p2⟩
        rw [hex]
        simp only [hcm, Instr.mapUpdate, Sem.run_bind, run_underlying hu, Result.andThen_ok, run_getObj g1 (by simp), run_checkKey hd1 hd2, run_findKey hd1 f1, Nat.zero_add, hen, Option.map_some, Option.getD_some, Instr.keyThatStays, f5, if_true, Sem.run_pure, run_setObj g1 (by simp)]
      · have f1 := find_miss vx hd2 0 (fun p hp => h7 p (gp.mem_iff.1 hp)) hka' g2
        obtain ⟨p1, p2⟩ := hp.map_write (ents := ents.push { key := a.eval x, val := a.eval y, born := clock }) (clock := clock + 1) (es' := es' ++ [(pgetA x' e, pgetA y' e)]) hes hr g1 h6
          (List.perm_append_singleton _ _ |>.trans ((gp.cons _).trans h8.symm)) (keys_new h7 h8 hxs hka go) (stamps_push gs) (by rw [Array.toList_push]; exact Ents.snoc vx vy g2)
        refine ⟨_, ?_, rho, p1, p2⟩
        rw [hex]
        simp only [hcm, Instr.mapUpdate, Sem.run_bind, run_underlying hu, Result.andThen_ok, run_getObj g1 (by simp), run_checkKey hd1 hd2, run_findKey hd1 f1, run_setObj g1 (by simp)]
    · exact (no_ne h).elim
  · exact (no_ne h).elim
end
end Go.Ev
