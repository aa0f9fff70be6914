/- MAPS. -/
import Derived.Test.YtfggabhomkajjaaDoorEv16
import Derived.Laws.StructEq
set_option linter.unusedSectionVars false
set_option linter.unusedVariables false
set_option linter.unusedSimpArgs false
namespace Go.Ev
open Go.RowKit

section
variable {P : Program} {nt : Nat} {o : Oper} {id : Nat} {ph : Phi} {e : Env} {H : Heap} {k : K}

theorem s_makeMap {t : TypeId} (hop : o.op = .makeMap t none) (h : evOp (compOp P nt o) id ph e H k = 1) : Good P nt o e H k := by
  simp only [compOp, hop] at h
  have hnd : ∀ c, o.op ≠ .defer c := by simp [hop]
  have h' : (hNew H (.map []) fun b H => k (.map b) H) = 1 := h
  obtain ⟨H', h1, h2⟩ := hNew_ok h'
  refine ⟨_, _, OpS.of_run hnd fun base w0 rho w a hp ho => ?_, h1⟩
  obtain ⟨p1, p2⟩ := hp.alloc (w' := w.alloc (.map #[] 0)) (o := .map #[] 0) h2.n h2.wlo h2.get h2.oth trivial ⟨rfl, rfl, rfl⟩ (by simp) (World.alloc_heap_new w _) (fun j hj => Below.heap_alloc _ _ _ hj) ⟨#[], 0, rfl, by simp only [List.map_nil, VRs], by simp only [List.map_nil, VRs]⟩
  exact ⟨.map (some w.heap.size), w.alloc (.map #[] 0), by simp [execOp, hop, Instr.makeMap], _, by simp only [VR]; exact ⟨_, rfl, by rw [h2.n]; omega, fun _ => by simp⟩, p1, p2⟩

def KeyD (ks : Bool) (d : TypeDesc) : Prop := (ks = false ∧ ∃ k, d = .int k) ∨ (ks = true ∧ d = .string)
theorem keyT_ok {t : TypeId} {ks : Bool} (h : keyT P t = some ks) : ∃ d, P.underlying t = some d ∧ KeyD ks d := by
  unfold keyT at h
  split at h
  · rename_i q hu; cases h; exact ⟨_, hu, Or.inl ⟨rfl, q, rfl⟩⟩
  · rename_i hu; cases h; exact ⟨_, hu, Or.inr ⟨rfl, rfl⟩⟩
  · cases h

theorem keyEq_ok {ks : Bool} {x y : V} {f : Bool → R} (h : keyEq id ks x y f = 1) : ∃ b, f b = 1 ∧ (b = true → x = y) ∧ ∀ (m : M) (cx cy : Value) (d : TypeDesc), VR m x cx → VR m y cy → KeyD ks d → Instr.sameNow d cx cy = some b ∧ (b = true → Instr.sameBits 10000 cy cx = true) := by
  cases x <;> first | exact (no_ne h).elim | skip
  · rename_i k1 a
    have h' : vInt id y (fun k2 b => ifB ks (no _) (ifB (Nat.beq k1 k2) (f (Nat.beq a b)) (no _))) = 1 := h
    obtain ⟨k2, b, rfl, h1⟩ := vInt_ok h'
    rcases ifB_or h1 with ⟨_, h2⟩ | ⟨hks, h2⟩
    · exact (no_ne h2).elim
    obtain ⟨h3, h4⟩ := ifB_no h2
    have := beq_of h3
    subst this
    refine ⟨_, h4, fun hb => by rw [beq_of hb], fun m cx cy d vx vy hd => ?_⟩
    simp only [VR] at vx vy
    rw [vx.1, vy.1]
    rcases hd with ⟨_, q, rfl⟩ | ⟨hks', _⟩
    · rw [beq_dec]
      constructor
      · simp only [Instr.sameNow, if_true]
        congr 1
        by_cases hab : a = b
        · subst hab; simp
        · have : toI (kKind k1) a ≠ toI (kKind k1) b := fun e => hab (toI_inj _ vx.2.1 vy.2.1 e)
          simp [hab, this]
      · intro hab
        have : a = b := of_decide_eq_true hab
        subst this
        show Instr.sameBits (9999 + 1) _ _ = true
        simp [Instr.sameBits]
    · rw [hks] at hks'; cases hks'
  · rename_i l1 a
    have h' : vStr id y (fun l2 b => ifB ks (ifB (Nat.beq l1 l2) (f (Nat.beq a b)) (f false)) (no _)) = 1 := h
    obtain ⟨l2, b, rfl, h1⟩ := vStr_ok h'
    obtain ⟨hks, h2⟩ := ifB_no h1
    have hf : f (decide (l1 = l2) && decide (a = b)) = 1 := by
      rcases ifB_or h2 with ⟨h3, h4⟩ | ⟨h3, h4⟩
      · rw [beq_dec] at h3 h4
        rw [h3]; exact h4
      · rw [beq_dec] at h3
        rw [h3]; exact h4
    refine ⟨_, hf, fun hb => by simp at hb; rw [hb.1, hb.2], fun m cx cy d vx vy hd => ?_⟩
    simp only [VR] at vx vy
    rw [vx.1, vy.1]
    have key : ((⟨(sbytes l1 a).toArray⟩ : ByteArray) == ⟨(sbytes l2 b).toArray⟩) = (decide (l1 = l2) && decide (a = b)) := by
      rw [beq_toListBytes, ByteArray.toList_eq, ByteArray.toList_eq]
      by_cases hl : l1 = l2
      · subst hl
        by_cases hab : a = b
        · subst hab; simp
        · simp only [hab, decide_false, Bool.and_false, beq_eq_false_iff_ne, ne_eq]
          intro e
          exact hab (sbytes_inj vx.2 vy.2 (by simpa using e))
      · simp only [hl, decide_false, Bool.false_and, beq_eq_false_iff_ne, ne_eq]
        intro e
        have := congrArg List.length e
        simp [sbytes_length] at this
        exact hl this
    rcases hd with ⟨hks', _⟩ | ⟨_, rfl⟩
    · rw [hks] at hks'; cases hks'
    · refine ⟨by simp only [Instr.sameNow, key], fun hb => ?_⟩
      have hb' : l1 = l2 ∧ a = b := by simpa using hb
      obtain ⟨rfl, rfl⟩ := hb'
      show Instr.sameBits (9999 + 1) _ _ = true
      simp only [Instr.sameBits]
      rw [key]
      exact hb

/-- A map's entries. -/
def Ents (m : M) (es : List (V × V)) (ents : List MapEntry) : Prop := VRs m (es.map (·.1)) (ents.map (·.key)) ∧ VRs m (es.map (·.2)) (ents.map (·.val))
theorem Ents.cons {m : M} {p : V × V} {es : List (V × V)} {ents : List MapEntry} (h : Ents m (p :: es) ents) : ∃ en r, ents = en :: r ∧ VR m p.1 en.key ∧ VR m p.2 en.val ∧ Ents m es r := by
  obtain ⟨h1, h2⟩ := h
  simp only [List.map_cons, VRs] at h1 h2
  obtain ⟨c, r, h3, h4, h5⟩ := h1
  obtain ⟨c', r', h6, h7, h8⟩ := h2
  cases ents with
  | nil => cases h3
  | cons en r0 =>
    simp only [List.map_cons, List.cons.injEq] at h3 h6
    obtain ⟨rfl, rfl⟩ := h3
    obtain ⟨rfl, rfl⟩ := h6
    exact ⟨en, r0, rfl, h4, h7, h5, h8⟩
theorem Ents.mk {m : M} {p : V × V} {es : List (V × V)} {en : MapEntry} {r : List MapEntry} (h1 : VR m p.1 en.key) (h2 : VR m p.2 en.val) (h : Ents m es r) : Ents m (p :: es) (en :: r) := by
  refine ⟨?_, ?_⟩ <;> simp only [List.map_cons, VRs]
  · exact ⟨_, _, rfl, h1, h.1⟩
  · exact ⟨_, _, rfl, h2, h.2⟩
theorem Ents.nil {m : M} {ents : List MapEntry} (h : Ents m [] ents) : ents = [] := by
  have := h.1
  simp only [List.map_nil, VRs] at this
  simpa using this

/-- A look into a map. -/
theorem lookL_ok {ks : Bool} {x : V} {f : V → R} {z : R} : ∀ {es : List (V × V)}, lookL id ks es x f z = 1 → (∃ v, f v = 1 ∧ ∀ (m : M) (cx : Value) (ents : List MapEntry) (d : TypeDesc) (j : Nat), VR m x cx → Ents m es ents → KeyD ks d → ∃ i cv, Instr.findNow d cx ents j = some (some (i, cv)) ∧ VR m v cv) ∨
    (z = 1 ∧ ∀ (m : M) (cx : Value) (ents : List MapEntry) (d : TypeDesc) (j : Nat), VR m x cx → Ents m es ents → KeyD ks d → Instr.findNow d cx ents j = some none)
  | [], h => Or.inr ⟨h, fun m cx ents d j _ he _ => by rw [he.nil]; rfl⟩
  | (a, v) :: es, h => by
    have h' : keyEq id ks x a (fun b => ifB b (f v) (lookL id ks es x f z)) = 1 := h
    obtain ⟨b, h1, _, h2⟩ := keyEq_ok h'
    rcases ifB_or h1 with ⟨rfl, h3⟩ | ⟨rfl, h3⟩
    · refine Or.inl ⟨v, h3, fun m cx ents d j vx he hd => ?_⟩
      obtain ⟨en, r, rfl, e1, e2, e3⟩ := he.cons
      exact ⟨j, en.val, by simp only [Instr.findNow, (h2 m cx en.key d vx e1 hd).1], e2⟩
    · rcases lookL_ok h3 with ⟨v', h4, h5⟩ | ⟨h4, h5⟩
      · refine Or.inl ⟨v', h4, fun m cx ents d j vx he hd => ?_⟩
        obtain ⟨en, r, rfl, e1, e2, e3⟩ := he.cons
        obtain ⟨i, cv, h6, h7⟩ := h5 m cx r d (j + 1) vx e3 hd
        exact ⟨i, cv, by simp only [Instr.findNow, (h2 m cx en.key d vx e1 hd).1, h6], h7⟩
      · refine Or.inr ⟨h4, fun m cx ents d j vx he hd => ?_⟩
        obtain ⟨en, r, rfl, e1, e2, e3⟩ := he.cons
        simp only [Instr.findNow, (h2 m cx en.key d vx e1 hd).1, h5 m cx r d (j + 1) vx e3 hd]

theorem run_checkKey {b : Bool} {t : TypeId} {d : TypeDesc} {ks : Bool} {c : Value} {w : World} (hu : P.underlying t = some d) (hd : KeyD ks d) : (Instr.checkKey b 10000 t c).run P w = .ok () w := by
  show (Instr.checkKey b (9999 + 1) t c).run P w = _
  generalize 9999 = dd
  rcases hd with ⟨_, q, rfl⟩ | ⟨_, rfl⟩ <;> simp only [Instr.checkKey, Sem.run_bind, run_underlying hu, Result.andThen_ok, Sem.run_pure]
theorem run_findKey {t : TypeId} {d : TypeDesc} {c : Value} {ents : List MapEntry} {r : Option (Nat × Value)} {w : World} (hu : P.underlying t = some d) (h : Instr.findNow d c ents 0 = some r) : (Instr.findKey t c ents).run P w = .ok r w := by
  simp [Instr.findKey, run_underlying hu, h]
theorem PR.map_at {base : Nat} {w0 w : World} {rho : Nat → Option Nat} (hp : PR P base w0 rho H w) {b c : Nat} {es : List (V × V)} (hb : H.get b = .map es) (hm : (mu rho H w).b b c) : rho b = some c ∧ ∃ ents clock, w.heap[c]? = some (.map ents clock) ∧ Ents (mu rho H w) es ents.toList := by
  have hr : rho b = some c := hm.2 (by rw [hb]; trivial)
  obtain ⟨o, h1, h2⟩ := hp.blk b c hr
  rw [hb] at h2
  obtain ⟨ents, clock, rfl, h3, h4⟩ := h2
  exact ⟨hr, ents, clock, h1, h3, h4⟩
theorem run_getObj {c : Nat} {ob : Obj} {w : World} (h : w.heap[c]? = some ob) (hn : ∀ a b d, ob ≠ .cells a b d) : (getObj c).run P w = .ok ob w := by
  unfold getObj
  unfold Sem.run
  rw [h]
  cases ob <;> first | rfl | exact absurd rfl (hn _ _ _)
theorem run_setObj {c : Nat} {ob o' : Obj} {w : World} (h : w.heap[c]? = some ob) (hn : ∀ a b d, ob ≠ .cells a b d) : (setObj c o').run P w = .ok () { w with heap := w.heap.setIfInBounds c o' } := by
  unfold setObj
  unfold Sem.run
  rw [h]
  cases ob <;> first | rfl | exact absurd rfl (hn _ _ _)

theorem zeroV_ok {t : TypeId} {z : V} (h : zeroV P t = some z) : ∃ i zv, P.info? t = some i ∧ i.zero = some zv ∧ ∀ m, VR m z zv := by
  unfold zeroV at h
  split at h
  · rename_i i hi
    split at h
    · rename_i zv hz
      exact ⟨i, zv, hi, hz, fun m => constV_ok h⟩
    · cases h
  · cases h

theorem s_lookup {t : TypeId} {mm x : Operand} {ok : Bool} (hop : o.op = .lookup t mm x ok) (h : evOp (compOp P nt o) id ph e H k = 1) : Good P nt o e H k := by
  simp only [compOp, hop] at h
  have mem : mm ∈ o.op.operands ∧ x ∈ o.op.operands := by simp [hop, Op.operands]
  have hnd : ∀ c, o.op ≠ .defer c := by simp [hop]
  split at h
  · rename_i m' x' kt el hm hx hu
    split at h
    · rename_i z ks hz hks
      obtain ⟨d, hd1, hd2⟩ := keyT_ok hks
      obtain ⟨i, zv, hi, hzv, hzr⟩ := zeroV_ok hz
      have h' : eLook ks z ok m' x' id ph e H k = 1 := h
      unfold eLook at h'
      rw [getA_eq, getA_eq] at h'
      have hzrun : ∀ w : World, (zeroValue el).run P w = .ok zv w := fun w => by simp [zeroValue, typeInfo, hi, hzv]
      -- nothing there
      have fin0 : ifB ok (k (.tup [z, .bool false]) H) (k z H) = 1 → (∀ (m : M) (w : World) (ac : Act), OR m nt e ac o → (execOp ac.eval o).run P w = .ok (.value (if ok then .tuple #[zv, .bool false] else zv)) w) → Good P nt o e H k := by
        intro hk hrun
        rcases ifB_or hk with ⟨rfl, h1⟩ | ⟨rfl, h1⟩
        · exact ⟨_, _, OpS.of_pure hnd fun m w ac ho => ⟨_, hrun m w ac ho, by simp only [if_true, VR]; exact ⟨_, rfl, by simp only [VRs]; exact ⟨_, _, rfl, hzr m, _, _, rfl, by simp only [VR], rfl⟩⟩⟩, h1⟩
        · exact ⟨_, _, OpS.of_pure hnd fun m w ac ho => ⟨_, hrun m w ac ho, by simpa using hzr m⟩, h1⟩
      rcases vMapN_ok h' with ⟨b, hb, h1⟩ | ⟨hb, h1⟩
      · rw [hGet_eq] at h1
        obtain ⟨es, hes, h2⟩ := bMap_ok h1
        rcases lookL_ok h2 with ⟨v, h3, h4⟩ | ⟨h3, h4⟩
        · have hrun : ∀ (base : Nat) (w0 : World) (rho : Nat → Option Nat) (w : World) (a : Act), PR P base w0 rho H w → OR (mu rho H w) nt e a o → ∃ cv, VR (mu rho H w) v cv ∧ (execOp a.eval o).run P w = .ok (.value (if ok then .tuple #[cv, .bool true] else cv)) w := by
            intro base w0 rho w a hp ho
            have vm := ho mm mem.1 m' hm
            rw [hb] at vm
            simp only [VR] at vm
            obtain ⟨c, hc, hmu⟩ := vm
            obtain ⟨_, ents, clock, g1, g2⟩ := hp.map_at hes hmu
            obtain ⟨i', cv, g3, g4⟩ := h4 _ _ _ d 0 (ho x mem.2 x' hx) g2 hd2
            refine ⟨cv, g4, ?_⟩
            simp only [execOp, hop, hc, Instr.lookup, Sem.run_bind, run_underlying hu, Result.andThen_ok, run_getObj g1 (by simp), Sem.run_pure, run_checkKey hd1 hd2, run_findKey hd1 g3]
          rcases ifB_or h3 with ⟨rfl, h5⟩ | ⟨rfl, h5⟩
          · refine ⟨_, _, OpS.of_run hnd fun base w0 rho w a hp ho => ?_, h5⟩
            obtain ⟨cv, g1, g2⟩ := hrun base w0 rho w a hp ho
            exact ⟨_, w, g2, rho, by simp only [if_true, VR]; exact ⟨_, rfl, by simp only [VRs]; exact ⟨_, _, rfl, g1, _, _, rfl, by simp only [VR], rfl⟩⟩, hp, Ext.refl hp.lt⟩
          · refine ⟨_, _, OpS.of_run hnd fun base w0 rho w a hp ho => ?_, h5⟩
            obtain ⟨cv, g1, g2⟩ := hrun base w0 rho w a hp ho
            exact ⟨_, w, g2, rho, by simpa using g1, hp, Ext.refl hp.lt⟩
        · -- the map has it not
          have hrun : ∀ (base : Nat) (w0 : World) (rho : Nat → Option Nat) (w : World) (a : Act), PR P base w0 rho H w → OR (mu rho H w) nt e a o → (execOp a.eval o).run P w = .ok (.value (if ok then .tuple #[zv, .bool false] else zv)) w := by
            intro base w0 rho w a hp ho
            have vm := ho mm mem.1 m' hm
            rw [hb] at vm
            simp only [VR] at vm
            obtain ⟨c, hc, hmu⟩ := vm
            obtain ⟨_, ents, clock, g1, g2⟩ := hp.map_at hes hmu
            have g3 := h4 _ _ _ d 0 (ho x mem.2 x' hx) g2 hd2
            simp only [execOp, hop, hc, Instr.lookup, Sem.run_bind, run_underlying hu, Result.andThen_ok, run_getObj g1 (by simp), Sem.run_pure, run_checkKey hd1 hd2, run_findKey hd1 g3, hzrun]
          rcases ifB_or h3 with ⟨rfl, h5⟩ | ⟨rfl, h5⟩
          · exact ⟨_, _, OpS.of_run hnd fun base w0 rho w a hp ho => ⟨_, w, hrun base w0 rho w a hp ho, rho, by simp only [if_true, VR]; exact ⟨_, rfl, by simp only [VRs]; exact ⟨_, _, rfl, hzr _, _, _, rfl, by simp only [VR], rfl⟩⟩, hp, Ext.refl hp.lt⟩, h5⟩
          · exact ⟨_, _, OpS.of_run hnd fun base w0 rho w a hp ho => ⟨_, w, hrun base w0 rho w a hp ho, rho, by simpa using hzr _, hp, Ext.refl hp.lt⟩, h5⟩
      · refine fin0 h1 fun m w ac ho => ?_
        have vm := ho mm mem.1 m' hm
        rw [hb] at vm
        simp only [VR] at vm
        simp only [execOp, hop, vm, Instr.lookup, Sem.run_bind, run_underlying hu, Result.andThen_ok, Sem.run_pure, run_checkKey hd1 hd2, run_findKey hd1 (show Instr.findNow d (ac.eval x) (#[] : Array MapEntry).toList 0 = some none from rfl), hzrun]
    · exact (no_ne h).elim
  · exact (no_ne h).elim

theorem setL_ok {ks : Bool} {x y : V} : ∀ {es : List (V × V)} {f : List (V × V) → R}, setL id ks es x y f = 1 → ∃ es', f es' = 1 ∧ ∀ (m : M) (cx cy : Value) (ents : List MapEntry) (d : TypeDesc) (j : Nat), VR m x cx → VR m y cy → Ents m es ents → KeyD ks d →
    (∃ (i : Nat) (ov : Value) (en : MapEntry), Instr.findNow d cx ents j = some (some (j + i, ov)) ∧ ents[i]? = some en ∧ Instr.sameBits 10000 en.key cx = true ∧ Ents m es' (ents.modify i fun e => { e with key := cx, val := cy })) ∨
    (Instr.findNow d cx ents j = some none ∧ ∀ born, Ents m es' (ents ++ [{ key := cx, val := cy, born }]))
  | [], f, h => ⟨_, h, fun m cx cy ents d j vx vy he hd => Or.inr ⟨by rw [he.nil]; rfl, fun born => by rw [he.nil]; exact Ents.mk vx vy ⟨by simp only [List.map_nil, VRs], by simp only [List.map_nil, VRs]⟩⟩⟩
  | (a, v) :: es, f, h => by
    have h' : keyEq id ks x a (fun b => ifB b (f ((a, y) :: es)) (setL id ks es x y fun r => f ((a, v) :: r))) = 1 := h
    obtain ⟨b, h1, hxa, h2⟩ := keyEq_ok h'
    rcases ifB_or h1 with ⟨rfl, h3⟩ | ⟨rfl, h3⟩
    · refine ⟨_, h3, fun m cx cy ents d j vx vy he hd => Or.inl ?_⟩
      obtain ⟨en, r, rfl, e1, e2, e3⟩ := he.cons
      obtain ⟨g1, g2⟩ := h2 m cx en.key d vx e1 hd
      have hxa' := hxa rfl
      refine ⟨0, en.val, en, by simp only [Instr.findNow, g1, Nat.add_zero], rfl, g2 rfl, ?_⟩
      exact Ents.mk (by rw [← hxa']; exact vx) vy e3
    · obtain ⟨es', h4, h5⟩ := setL_ok h3
      refine ⟨_, h4, fun m cx cy ents d j vx vy he hd => ?_⟩
      obtain ⟨en, r, rfl, e1, e2, e3⟩ := he.cons
      obtain ⟨g1, _⟩ := h2 m cx en.key d vx e1 hd
      rcases h5 m cx cy r d (j + 1) vx vy e3 hd with ⟨i, ov, en', h6, h7, h8, h9⟩ | ⟨h6, h7⟩
      · refine Or.inl ⟨i + 1, ov, en', by simp only [Instr.findNow, g1, h6]; rw [show j + 1 + i = j + (i + 1) by omega], by simpa using h7, h8, ?_⟩
        rw [List.modify_succ_cons]
        exact Ents.mk e1 e2 h9
      · exact Or.inr ⟨by simp only [Instr.findNow, g1, h6], fun born => Ents.mk e1 e2 (h7 born)⟩

theorem delL_ok {ks : Bool} {x : V} : ∀ {es : List (V × V)} {f : List (V × V) → R}, delL id ks es x f = 1 → ∃ es', f es' = 1 ∧ ∀ (m : M) (cx : Value) (ents : List MapEntry) (d : TypeDesc) (j : Nat), VR m x cx → Ents m es ents → KeyD ks d →
    (∃ (i : Nat) (ov : Value), Instr.findNow d cx ents j = some (some (j + i, ov)) ∧ i < ents.length ∧ Ents m es' (ents.eraseIdx i)) ∨
    (Instr.findNow d cx ents j = some none ∧ Ents m es' ents)
  | [], f, h => ⟨_, h, fun m cx ents d j vx he hd => Or.inr ⟨by rw [he.nil]; rfl, he⟩⟩
  | (a, v) :: es, f, h => by
    have h' : keyEq id ks x a (fun b => ifB b (f es) (delL id ks es x fun r => f ((a, v) :: r))) = 1 := h
    obtain ⟨b, h1, hxa, h2⟩ := keyEq_ok h'
    rcases ifB_or h1 with ⟨rfl, h3⟩ | ⟨rfl, h3⟩
    · refine ⟨_, h3, fun m cx ents d j vx he hd => Or.inl ?_⟩
      obtain ⟨en, r, rfl, e1, e2, e3⟩ := he.cons
      obtain ⟨g1, g2⟩ := h2 m cx en.key d vx e1 hd
      exact ⟨0, en.val, by simp only [Instr.findNow, g1, Nat.add_zero], by simp, e3⟩
    · obtain ⟨es', h4, h5⟩ := delL_ok h3
      refine ⟨_, h4, fun m cx ents d j vx he hd => ?_⟩
      obtain ⟨en, r, rfl, e1, e2, e3⟩ := he.cons
      obtain ⟨g1, _⟩ := h2 m cx en.key d vx e1 hd
      rcases h5 m cx r d (j + 1) vx e3 hd with ⟨i, ov, h6, h7, h9⟩ | ⟨h6, h7⟩
      · refine Or.inl ⟨i + 1, ov, by simp only [Instr.findNow, g1, h6]; rw [show j + 1 + i = j + (i + 1) by omega], by simp; omega, ?_⟩
        exact Ents.mk e1 e2 h9
      · exact Or.inr ⟨by simp only [Instr.findNow, g1, h6], Ents.mk e1 e2 h7⟩

theorem PR.map_write {base : Nat} {w0 w : World} {rho : Nat → Option Nat} {H' : Heap} (hp : PR P base w0 rho H w) {b c : Nat} {es es' : List (V × V)} {ents0 ents : Array MapEntry} {clock0 clock : Nat} (hb : H.get b = .map es) (hr : rho b = some c) (hw : w.heap[c]? = some (.map ents0 clock0)) (hS : SetTo H b (.map es') H') (he : Ents (mu rho H w) es' ents.toList) :
    PR P base w0 rho H' { w with heap := w.heap.setIfInBounds c (.map ents clock) } ∧ Ext rho H w rho H' { w with heap := w.heap.setIfInBounds c (.map ents clock) } := by
  have hlt : c < w.heap.size := (hp.dom b c hr).2.2.1
  exact hp.write (o := .map ents clock) hr (by rw [hb]; intro e; cases e) hS.n hS.wlo hS.wb hS.get hS.oth trivial ⟨rfl, rfl, rfl⟩ (by simp) (by simp [hlt]) (fun j hj => by simp [Array.getElem?_setIfInBounds_ne (Ne.symm hj)]) ⟨ents, clock, rfl, he.1, he.2⟩ (fun cs e fr h => by rw [hw] at h; cases h)

theorem s_mapUpdate {t : TypeId} {mm x y : Operand} (hop : o.op = .mapUpdate t mm x y ∨ o.op = .insert t mm x y) (h : evOp (compOp P nt o) id ph e H k = 1) : Good P nt o e H k := by
  have hc : compOp P nt o = match compArg nt mm, compArg nt x, compArg nt y, P.underlying t with
    | some m, some x, some y, some (.map kt _) => (match keyT P kt with | some ks => .mset ks m x y | none => .bad)
    | _, _, _, _ => .bad := by rcases hop with h | h <;> simp only [compOp, h] <;> rfl
  rw [hc] at h
  have mem : mm ∈ o.op.operands ∧ x ∈ o.op.operands ∧ y ∈ o.op.operands := by rcases hop with h | h <;> simp [h, Op.operands]
  have hnd : ∀ c, o.op ≠ .defer c := by rcases hop with h | h <;> simp [h]
  split at h
  · rename_i m' x' y' kt el hm hx hy hu
    split at h
    · rename_i ks hks
      obtain ⟨d, hd1, hd2⟩ := keyT_ok hks
      have h' : eMset ks m' x' y' id ph e H k = 1 := h
      unfold eMset at h'
      rw [getA_eq, getA_eq, getA_eq] at h'
      obtain ⟨b, hb, h1⟩ := vMap_ok h'
      rw [hGet_eq] at h1
      obtain ⟨es, hes, h2⟩ := bMap_ok h1
      obtain ⟨es', h3, h4⟩ := setL_ok h2
      obtain ⟨H', h5, h6⟩ := hSet_ok h3
      refine ⟨_, _, OpS.of_skip hnd fun base w0 rho w a hp ho => ?_, h5⟩
      have vm := ho mm mem.1 m' hm
      rw [hb] at vm
      simp only [VR] at vm
      obtain ⟨c, hcm, hmu⟩ := vm
      obtain ⟨hr, ents, clock, g1, g2⟩ := hp.map_at hes hmu
      have hex : (execOp a.eval o).run P w = ((Instr.mapUpdate t (a.eval mm) (a.eval x) (a.eval y)).run P w).andThen fun _ w' => .ok .skip w' := by
        rcases hop with h | h <;> simp only [execOp, h, Sem.run_bind, Sem.run_pure]
      rcases h4 _ _ _ _ d 0 (ho x mem.2.1 x' hx) (ho y mem.2.2 y' hy) g2 hd2 with ⟨i, ov, en, h7, h8, h9, h10⟩ | ⟨h7, h8⟩
      · obtain ⟨p1, p2⟩ := hp.map_write (ents := ents.modify i fun e => { e with key := a.eval x, val := a.eval y }) (clock := clock) hes hr g1 h6 (by rw [Array.toList_modify]; exact h10)
        refine ⟨_, ?_, rho, p1, p2⟩
        have hen : ents[i]? = some en := by simpa using h8
        rw [hex]
        simp only [hcm, Instr.mapUpdate, Sem.run_bind, run_underlying hu, Result.andThen_ok, run_getObj g1 (by simp), run_checkKey hd1 hd2, run_findKey hd1 h7, Nat.zero_add, hen, Option.map_some, Option.getD_some, Instr.keyThatStays, h9, if_true, Sem.run_pure, run_setObj g1 (by simp)]
      · obtain ⟨p1, p2⟩ := hp.map_write (ents := ents.push { key := a.eval x, val := a.eval y, born := clock }) (clock := clock + 1) hes hr g1 h6 (by rw [Array.toList_push]; exact h8 clock)
        refine ⟨_, ?_, rho, p1, p2⟩
        rw [hex]
        simp only [hcm, Instr.mapUpdate, Sem.run_bind, run_underlying hu, Result.andThen_ok, run_getObj g1 (by simp), run_checkKey hd1 hd2, run_findKey hd1 h7, run_setObj g1 (by simp)]
    · exact (no_ne h).elim
  · exact (no_ne h).elim
end
end Go.Ev
