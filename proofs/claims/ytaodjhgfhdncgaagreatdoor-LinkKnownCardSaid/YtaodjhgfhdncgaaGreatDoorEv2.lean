/- WHAT RELATES ABSTRACT VALUES AND HEAPS to the model's own; steps of the heap. -/
import Derived.Test.YtaodjhgfhdncgaaGreatDoorEv1
set_option linter.unusedVariables false
set_option linter.unusedSimpArgs false
set_option linter.unusedSectionVars false
namespace Go.Ev
open Go.RowKit
/-- The bytes of a text: n in base 256, the lowest first. -/
def sbytes : Nat → Nat → List UInt8
  | 0, _ => []
  | l + 1, n => UInt8.ofNat (n % 256) :: sbytes l (n / 256)

/-- 2 to the kind's bits. -/
def kMod (k : IntKind) : Nat := 2 ^ k.bits
/-- A number in two's complement. -/
def toI (k : IntKind) (n : Nat) : Int := k.wrap (n : Int)

/-- b: which block stands for which; z: how many cells a block of the model has. -/
structure M where
  b : Nat → Nat → Prop
  z : Nat → Nat → Prop
def M.le (m m' : M) : Prop := (∀ b c, m.b b c → m'.b b c) ∧ ∀ c z, m.z c z → m'.z c z
mutual
/-- An abstract value stands for a value; mu: which block stands for which. -/
def VR (mu : M) : V → Value → Prop
  | .int k n, v => v = .int (kKind k) (toI (kKind k) n) ∧ n < kMod (kKind k) ∧ k < 8
  | .bool b, v => v = .bool b
  | .str l n, v => v = .string ⟨(sbytes l n).toArray⟩ ∧ n < 256 ^ l
  | .ptr b o, v => ∃ c, v = .pointer (some ⟨c, o, none⟩) ∧ mu.b b c
  | .nilp, v => v = .pointer none
  | .slice b o l cp sz, v => ∃ c cap o', v = .slice (some ⟨c, o', none⟩) l cap ∧ mu.b b c ∧ l ≤ cap ∧ ((∀ q, cp = q + 1 → cap = q) ∧ (cp = 0 → cap = 0 ∨ (mu.z c (o' + cap * sz) ∧ cap < 9223372036854775808))) ∧ (o' = o ∨ cap = 0)
  | .nils, v => v = .slice none 0 0
  | .map b, v => ∃ c, v = .map (some c) ∧ mu.b b c
  | .nilm, v => v = .map none
  | .func f l, v => ∃ cs, v = .func (.func (f / 2)) (if f % 2 = 0 then #[] else cs) (if f % 2 = 0 then cs else #[]) ∧ VRs mu l cs.toList
  | .yld b, v => ∃ c, v = .func (.yield c) #[] #[] ∧ mu.b b c
  | .nilf, v => v = .nilFunc
  | .iface t x, v => ∃ y, v = .iface t y ∧ VR mu x y
  | .nili, v => v = .nilIface
  | .agg l, v => ∃ cs, v = .agg cs ∧ VRs mu l cs.toList
  | .tup l, v => ∃ cs, v = .tuple cs ∧ VRs mu l cs.toList
def VRs (mu : M) : List V → List Value → Prop
  | [], cs => cs = []
  | v :: l, cs => ∃ c r, cs = c :: r ∧ VR mu v c ∧ VRs mu l r
end

mutual
theorem VR.mono {mu mu' : M} (h : mu.le mu') : ∀ (v : V) (c : Value), VR mu v c → VR mu' v c
  | .int .., _, hv => by simpa only [VR] using hv
  | .bool _, _, hv => by simpa only [VR] using hv
  | .str .., _, hv => by simpa only [VR] using hv
  | .ptr .., _, hv => by simp only [VR] at hv ⊢; obtain ⟨c, h1, h2⟩ := hv; exact ⟨c, h1, h.1 _ _ h2⟩
  | .nilp, _, hv => by simpa only [VR] using hv
  | .slice .., _, hv => by simp only [VR] at hv ⊢; obtain ⟨c, cap, o', h1, h2, h3, ⟨h4, h5⟩, h6⟩ := hv; exact ⟨c, cap, o', h1, h.1 _ _ h2, h3, ⟨h4, fun e => (h5 e).imp id fun q => ⟨h.2 _ _ q.1, q.2⟩⟩, h6⟩
  | .nils, _, hv => by simpa only [VR] using hv
  | .map _, _, hv => by simp only [VR] at hv ⊢; obtain ⟨c, h1, h2⟩ := hv; exact ⟨c, h1, h.1 _ _ h2⟩
  | .nilm, _, hv => by simpa only [VR] using hv
  | .func _ l, _, hv => by simp only [VR] at hv ⊢; obtain ⟨c, h1, h2⟩ := hv; exact ⟨c, h1, VRs.mono h l _ h2⟩
  | .yld _, _, hv => by simp only [VR] at hv ⊢; obtain ⟨c, h1, h2⟩ := hv; exact ⟨c, h1, h.1 _ _ h2⟩
  | .nilf, _, hv => by simpa only [VR] using hv
  | .iface _ x, _, hv => by simp only [VR] at hv ⊢; obtain ⟨c, h1, h2⟩ := hv; exact ⟨c, h1, VR.mono h x _ h2⟩
  | .nili, _, hv => by simpa only [VR] using hv
  | .agg l, _, hv => by simp only [VR] at hv ⊢; obtain ⟨c, h1, h2⟩ := hv; exact ⟨c, h1, VRs.mono h l _ h2⟩
  | .tup l, _, hv => by simp only [VR] at hv ⊢; obtain ⟨c, h1, h2⟩ := hv; exact ⟨c, h1, VRs.mono h l _ h2⟩
theorem VRs.mono {mu mu' : M} (h : mu.le mu') : ∀ (l : List V) (cs : List Value), VRs mu l cs → VRs mu' l cs
  | [], _, hv => by simpa only [VRs] using hv
  | v :: l, _, hv => by
    simp only [VRs] at hv ⊢
    obtain ⟨c, r, h1, h2, h3⟩ := hv
    exact ⟨c, r, h1, VR.mono h v _ h2, VRs.mono h l _ h3⟩
end

theorem VRs.length {mu : M} : ∀ {l : List V} {cs : List Value}, VRs mu l cs → cs.length = l.length
  | [], _, h => by simp only [VRs] at h; subst h; rfl
  | _ :: l, _, h => by simp only [VRs] at h; obtain ⟨c, r, rfl, _, h2⟩ := h; simp [VRs.length h2]
theorem VRs.get {mu : M} : ∀ {l : List V} {cs : List Value}, VRs mu l cs → ∀ {i : Nat} {v : V}, l[i]? = some v → ∃ c, cs[i]? = some c ∧ VR mu v c
  | [], _, _, i, v, hi => by simp at hi
  | x :: l, _, h, i, v, hi => by
    simp only [VRs] at h
    obtain ⟨c, r, rfl, h1, h2⟩ := h
    cases i with
    | zero => simp at hi; subst hi; exact ⟨c, rfl, h1⟩
    | succ i => simp only [List.getElem?_cons_succ] at hi ⊢; exact VRs.get h2 hi
theorem VRs.of_get {mu : M} : ∀ {l : List V} {cs : List Value}, cs.length = l.length → (∀ (i : Nat) (v : V) (c : Value), l[i]? = some v → cs[i]? = some c → VR mu v c) → VRs mu l cs
  | [], cs, hl, _ => by simp only [VRs]; exact List.length_eq_zero_iff.1 (by simpa using hl)
  | x :: l, [], hl, _ => by simp at hl
  | x :: l, c :: r, hl, h => by
    simp only [VRs]
    exact ⟨c, r, rfl, h 0 x c rfl rfl, VRs.of_get (by simpa using hl) fun i v c' h1 h2 => h (i + 1) v c' (by simpa using h1) (by simpa using h2)⟩
theorem VRs.append {mu : M} : ∀ {l m : List V} {cs ds : List Value}, VRs mu l cs → VRs mu m ds → VRs mu (l ++ m) (cs ++ ds)
  | [], _, _, _, h, h' => by simp only [VRs] at h; subst h; simpa using h'
  | x :: l, _, _, _, h, h' => by
    simp only [VRs] at h
    obtain ⟨c, r, rfl, h1, h2⟩ := h
    simp only [List.cons_append, VRs]
    exact ⟨c, _, rfl, h1, VRs.append h2 h'⟩

/-- A value of one cell. -/
def V.one : V → Bool
  | .agg _ | .tup _ => false
  | _ => true
theorem VR.one {mu : M} {v : V} {c : Value} (h : VR mu v c) (ho : v.one = true) : (∀ x, c ≠ .agg x) ∧ (∀ x, c ≠ .tuple x) := by
  cases v <;> simp only [VR] at h <;> simp [V.one] at ho <;>
    first
    | (subst h; constructor <;> intro x hx <;> cases hx)
    | (obtain ⟨rfl, _⟩ := h; constructor <;> intro x hx <;> cases hx)
    | (obtain ⟨c, rfl, _⟩ := h; constructor <;> intro x hx <;> cases hx)
    | (obtain ⟨c, d, o, rfl, _⟩ := h; constructor <;> intro x hx <;> cases hx)

/-! ### blocks -/
inductive Blk where
  | dead
  | cells (l : List V)
  | bytes (len n : Nat)
  | map (es : List (V × V))
  | mark
  | loop (st jump : Nat) (e : Env) (ps : List Slot) (assign body : RC)

def Blk.alive : Blk → Prop
  | .dead => False
  | _ => True

/-- A list of cells is a row's beginning; no cell of the row is frozen. -/
def RowR (mu : M) (l : List V) (c : Array Value) (fr : Nat × Nat) : Prop :=
  (∀ (i : Nat) (v : V), l[i]? = some v → v.one = true ∧ ∃ cv, c[i]? = some cv ∧ VR mu v cv) ∧ ∀ i, i < c.size → ¬ (fr.1 ≤ i ∧ i < fr.2)

def p8 {α : Type} (i : I8) (t : N8 α) : α := match t with
  | .mk a0 a1 a2 a3 a4 a5 a6 a7 => match i with
    | .i0 => a0 | .i1 => a1 | .i2 => a2 | .i3 => a3 | .i4 => a4 | .i5 => a5 | .i6 => a6 | .i7 => a7
def pget (s : Slot) (e : Env) : V := match s with
  | .mk a b c => p8 c (p8 b (p8 a e))
/-- The temporaries of an activation. -/
structure TR (mu : M) (nt : Nat) (e : Env) (tmps : Array Value) : Prop where
  size : tmps.size = nt
  le : nt ≤ 512
  get : ∀ (t : Nat) (v : Value), tmps[t]? = some v → VR mu (pget (slotOf t) e) v
  rest : ∀ t, nt ≤ t → t < 512 → pget (slotOf t) e = .tup []
theorem TR.mono {mu mu' : M} (h : mu.le mu') {nt : Nat} {e : Env} {tmps : Array Value} (ht : TR mu nt e tmps) : TR mu' nt e tmps :=
  ⟨ht.size, ht.le, fun t v hv => VR.mono h _ _ (ht.get t v hv), ht.rest⟩
def stOf : LoopState → Nat
  | .ready => 0 | .busy => 1 | .done => 2 | .exhausted => 3
def pend : Nat → Option Code
  | 0 => none
  | 1 => some .ret
  | n + 2 => some (.exit n)
/-- Two keys of a kind. -/
def Kd (x y : V) : Prop := (∃ k a b, x = .int k a ∧ y = .int k b) ∨ ∃ l a m b, x = .str l a ∧ y = .str m b
/-- Keys that are all of a kind, and none twice. -/
def KeysOK (ks : List V) : Prop := ks.Nodup ∧ ∀ x ∈ ks, ∀ y ∈ ks, Kd x y
/-- A map's stamps: none twice, all ahead of its clock. -/
def Stamps (ents : Array MapEntry) (clock : Nat) : Prop := (ents.toList.map (·.born)).Nodup ∧ ∀ en ∈ ents.toList, en.born < clock
def BR (P : Program) (mu : M) : Blk → Obj → Prop
  | .dead, _ => True
  | .cells l, o => ∃ c e fr, o = .cells c e fr ∧ RowR mu l c fr ∧ ¬ (fr.1 ≤ c.size ∧ c.size < fr.2)
  | .bytes len n, o => ∃ c e fr, o = .cells c e fr ∧ (n < 256 ^ len ∧ ∀ (i : Nat) (x : UInt8), (sbytes len n)[i]? = some x → c[i]? = some (Value.int .u8 (x.toNat : Int))) ∧ ∀ i, i < c.size → ¬ (fr.1 ≤ i ∧ i < fr.2)
  | .map es, o => ∃ (ents : Array MapEntry) (clock : Nat) (es' : List (V × V)), o = .map ents clock ∧ es'.Perm es ∧ KeysOK (es.map (·.1)) ∧ Stamps ents clock ∧ VRs mu (es'.map (·.1)) (ents.toList.map (·.key)) ∧ VRs mu (es'.map (·.2)) (ents.toList.map (·.val))
  | .mark, o => ∃ x, o = .deferred x
  | .loop st jump e ps as bo, o => ∃ (r : Loop) (nt fid : Nat), o = .loop r ∧ stOf r.state = st ∧ r.pending = pend jump ∧ TR mu nt e r.tmps ∧ compPs nt r.params.toList = some ps ∧ RC.mk nt fid r.assign = as ∧ RC.mk nt fid r.body = bo

theorem BR.mono {P : Program} {mu mu' : M} (h : mu.le mu') {bl : Blk} {o : Obj} (hb : BR P mu bl o) : BR P mu' bl o := by
  cases bl with
  | dead => exact True.intro
  | cells l =>
    obtain ⟨c, e, fr, h1, ⟨h2, h3⟩, h4⟩ := hb
    exact ⟨c, e, fr, h1, ⟨fun i v hi => ⟨(h2 i v hi).1, (h2 i v hi).2.imp fun cv hcv => ⟨hcv.1, VR.mono h _ _ hcv.2⟩⟩, h3⟩, h4⟩
  | bytes len n => exact hb
  | map es =>
    obtain ⟨ents, clock, es', h1, h4, h5, h6, h2, h3⟩ := hb
    exact ⟨ents, clock, es', h1, h4, h5, h6, VRs.mono h _ _ h2, VRs.mono h _ _ h3⟩
  | mark => exact hb
  | loop st jump e ps as bo =>
    obtain ⟨r, nt, fid, h1, h2, h3, h4, h5⟩ := hb
    exact ⟨r, nt, fid, h1, h2, h3, h4.mono h, h5⟩

/-! ### the heap -/
inductive HT where
  | e
  | n (v : Blk) (l r : HT)

noncomputable def HT.get : HT → Nat → Blk :=
  HT.rec (motive := fun _ => Nat → Blk) (fun _ => .dead)
    (fun v _ _ gl gr k => Nat.rec (motive := fun _ => Blk) v (fun j _ => Nat.rec (motive := fun _ => Blk) (gl (Nat.div j 2)) (fun _ _ => gr (Nat.div j 2)) (Nat.mod j 2)) k)
noncomputable def HT.set (x : Blk) : HT → Nat → (HT → R) → R :=
  HT.rec (motive := fun _ => Nat → (HT → R) → R)
    (fun k c => Nat.rec (motive := fun _ => R) (c (.n x .e .e)) (fun _ _ => no 1) k)
    (fun u l r sl sr k c => Nat.rec (motive := fun _ => R) (c (.n x l r))
      (fun j _ => Nat.rec (motive := fun _ => R) (sl (Nat.div j 2) fun l' => c (.n u l' r)) (fun _ _ => sr (Nat.div j 2) fun r' => c (.n u l r')) (Nat.mod j 2)) k)

theorem HT.get_e (k : Nat) : HT.get .e k = .dead := rfl
theorem HT.get_zero (v : Blk) (l r : HT) : HT.get (.n v l r) 0 = v := rfl
theorem HT.get_succ (v : Blk) (l r : HT) (j : Nat) : HT.get (.n v l r) (j + 1) = if j % 2 = 0 then HT.get l (j / 2) else HT.get r (j / 2) := by
  show Nat.rec (motive := fun _ => Blk) (HT.get l (j / 2)) (fun _ _ => HT.get r (j / 2)) (j % 2) = _
  rcases (by omega : j % 2 = 0 ∨ j % 2 = 1) with h | h <;> rw [h] <;> rfl

theorem HT.set_ok {x : Blk} : ∀ (t : HT) (k : Nat) (c : HT → R), t.set x k c = 1 → ∃ t', c t' = 1 ∧ t'.get k = x ∧ ∀ j, j ≠ k → t'.get j = t.get j := by
  intro t
  induction t with
  | e =>
    intro k c h
    cases k with
    | zero =>
      refine ⟨_, h, rfl, fun j hj => ?_⟩
      cases j with
      | zero => exact absurd rfl hj
      | succ j => rw [get_succ, get_e, get_e]; simp [get_e]
    | succ k => exact (no_ne h).elim
  | n u l r ihl ihr =>
    intro k c h
    cases k with
    | zero =>
      refine ⟨_, h, rfl, fun j hj => ?_⟩
      cases j with
      | zero => exact absurd rfl hj
      | succ j => rw [get_succ, get_succ]
    | succ k =>
      have h' : Nat.rec (motive := fun _ => R) (l.set x (k / 2) fun l' => c (.n u l' r)) (fun _ _ => r.set x (k / 2) fun r' => c (.n u l r')) (k % 2) = 1 := h
      rcases (by omega : k % 2 = 0 ∨ k % 2 = 1) with hk | hk
      · rw [hk] at h'
        obtain ⟨t', h1, h2, h3⟩ := ihl _ _ h'
        refine ⟨_, h1, by rw [get_succ, if_pos hk]; exact h2, fun j hj => ?_⟩
        cases j with
        | zero => rfl
        | succ j =>
          rw [get_succ, get_succ]
          split
          · exact h3 _ (by omega)
          · rfl
      · rw [hk] at h'
        obtain ⟨t', h1, h2, h3⟩ := ihr _ _ h'
        refine ⟨_, h1, by rw [get_succ, if_neg (by omega)]; exact h2, fun j hj => ?_⟩
        cases j with
        | zero => rfl
        | succ j =>
          rw [get_succ, get_succ]
          split
          · rfl
          · exact h3 _ (by omega)

/-- n: the next block; wlo: no block below it has been written since one asked. -/
inductive Heap where
  | mk (n wlo : Nat) (t : HT)
noncomputable def Heap.n (h : Heap) : Nat := Heap.rec (fun n _ _ => n) h
noncomputable def Heap.wlo (h : Heap) : Nat := Heap.rec (fun _ w _ => w) h
noncomputable def Heap.t (h : Heap) : HT := Heap.rec (fun _ _ t => t) h
noncomputable def Heap.get (h : Heap) (b : Nat) : Blk := h.t.get b

/-! ### the relation of states -/
/-- rho: which (living) block stands for which. -/
def mu (rho : Nat → Option Nat) (H : Heap) (w : World) : M := ⟨fun b c => b < H.n ∧ ((H.get b).alive → rho b = some c), fun c z => ∃ cs e fr, w.heap[c]? = some (.cells cs e fr) ∧ cs.size = z⟩

structure PR (P : Program) (base : Nat) (w0 : World) (rho : Nat → Option Nat) (H : Heap) (w : World) : Prop where
  below : Below base w0 w
  base_le : base ≤ w.heap.size
  wn : H.wlo ≤ H.n
  dom : ∀ b c, rho b = some c → b < H.n ∧ base ≤ c ∧ c < w.heap.size ∧ (H.get b).alive
  inj : ∀ b b' c, rho b = some c → rho b' = some c → b = b'
  blk : ∀ b c, rho b = some c → ∃ o, w.heap[c]? = some o ∧ BR P (mu rho H w) (H.get b) o
  out : ∀ b, H.n ≤ b → H.get b = .dead

/-- What a step does. -/
structure Ext (rho : Nat → Option Nat) (H : Heap) (w : World) (rho' : Nat → Option Nat) (H' : Heap) (w' : World) : Prop where
  n : H.n ≤ H'.n
  wlo : H'.wlo ≤ H.wlo
  size : w.heap.size ≤ w'.heap.size
  keep : ∀ b, b < H.n → b < H'.wlo → H'.get b = H.get b ∧ rho' b = rho b
  old : ∀ b c, b < H.n → rho' b = some c → rho b = some c
  live : ∀ b c, rho b = some c → (H'.get b).alive → rho' b = some c
  nores : ∀ b, b < H.n → (H'.get b).alive → (H.get b).alive
  new : ∀ b c, H.n ≤ b → rho' b = some c → w.heap.size ≤ c ∨ ∃ b0, rho b0 = some c ∧ H'.wlo ≤ b0
  fr : ∀ c, c < w.heap.size → (∀ b, rho b = some c → b < H'.wlo) → w'.heap[c]? = w.heap[c]?
  marks : ∀ b, H.get b = .mark → H'.get b = .mark ∧ rho' b = rho b ∧ ∀ c, rho b = some c → w'.heap[c]? = w.heap[c]?
  rows : ∀ (c : Nat) (cs : Array Value) (e : TypeId) (fr : Nat × Nat), w.heap[c]? = some (.cells cs e fr) → ∃ cs' e' fr', w'.heap[c]? = some (.cells cs' e' fr') ∧ cs'.size = cs.size

theorem Ext.refl {rho : Nat → Option Nat} {H : Heap} {w : World} (hd : ∀ b c, rho b = some c → b < H.n) : Ext rho H w rho H w :=
  ⟨Nat.le_refl _, Nat.le_refl _, Nat.le_refl _, fun _ _ _ => ⟨rfl, rfl⟩, fun _ _ _ h => h, fun _ _ h _ => h, fun _ _ h => h, fun b c hb h => absurd (hd b c h) (by omega), fun _ _ _ => rfl, fun b h => ⟨h, rfl, fun _ _ => rfl⟩, fun c cs e fr h => ⟨cs, e, fr, h, rfl⟩⟩

theorem Ext.mu {rho rho' : Nat → Option Nat} {H H' : Heap} {w w' : World} (h : Ext rho H w rho' H' w') : (mu rho H w).le (mu rho' H' w') :=
  ⟨fun b c ⟨h1, h2⟩ => ⟨Nat.lt_of_lt_of_le h1 h.n, fun ha => h.live _ _ (h2 (h.nores b h1 ha)) ha⟩,
   fun c z ⟨cs, e, fr, h1, h2⟩ => let ⟨cs', e', fr', h3, h4⟩ := h.rows c cs e fr h1; ⟨cs', e', fr', h3, h4.trans h2⟩⟩

theorem Ext.trans {r r1 r2 : Nat → Option Nat} {H H1 H2 : Heap} {w w1 w2 : World} (hd : ∀ b c, r b = some c → b < H.n) (h : Ext r H w r1 H1 w1) (k : Ext r1 H1 w1 r2 H2 w2) : Ext r H w r2 H2 w2 where
  n := Nat.le_trans h.n k.n
  wlo := Nat.le_trans k.wlo h.wlo
  size := Nat.le_trans h.size k.size
  keep b hb hw := by
    obtain ⟨a1, a2⟩ := h.keep b hb (Nat.lt_of_lt_of_le hw k.wlo)
    obtain ⟨b1, b2⟩ := k.keep b (Nat.lt_of_lt_of_le hb h.n) hw
    exact ⟨b1.trans a1, b2.trans a2⟩
  old b c hb hr := h.old b c hb (k.old b c (Nat.lt_of_lt_of_le hb h.n) hr)
  live b c hr ha := by
    have hb : b < H1.n := Nat.lt_of_lt_of_le (hd b c hr) h.n
    exact k.live b c (h.live b c hr (k.nores b hb ha)) ha
  nores b hb ha := h.nores b hb (k.nores b (Nat.lt_of_lt_of_le hb h.n) ha)
  new b c hb hr := by
    by_cases hb1 : b < H1.n
    · rcases h.new b c hb (k.old b c hb1 hr) with h' | ⟨b0, h1, h2⟩
      · exact Or.inl h'
      · exact Or.inr ⟨b0, h1, Nat.le_trans k.wlo h2⟩
    · rcases k.new b c (by omega) hr with h' | ⟨b0, h1, h2⟩
      · exact Or.inl (Nat.le_trans h.size h')
      · by_cases hb0 : b0 < H.n
        · exact Or.inr ⟨b0, h.old b0 c hb0 h1, h2⟩
        · rcases h.new b0 c (by omega) h1 with h' | ⟨b1, h3, h4⟩
          · exact Or.inl h'
          · exact Or.inr ⟨b1, h3, Nat.le_trans k.wlo h4⟩
  fr c hc hb := by
    refine (k.fr c (Nat.lt_of_lt_of_le hc h.size) fun b hr => ?_).trans (h.fr c hc fun b hr => Nat.lt_of_lt_of_le (hb b hr) k.wlo)
    by_cases hb0 : b < H.n
    · exact hb b (h.old b c hb0 hr)
    · rcases h.new b c (by omega) hr with h' | ⟨b1, h3, h4⟩
      · omega
      · have := hb b1 h3
        have := k.wlo
        omega
  rows c cs e fr hc := by
    obtain ⟨cs', e', fr', h1, h2⟩ := h.rows c cs e fr hc
    obtain ⟨cs2, e2, fr2, h3, h4⟩ := k.rows c cs' e' fr' h1
    exact ⟨cs2, e2, fr2, h3, h4.trans h2⟩
  marks b hb := by
    obtain ⟨a1, a2, a3⟩ := h.marks b hb
    obtain ⟨b1, b2, b3⟩ := k.marks b a1
    exact ⟨b1, b2.trans a2, fun c hc => (b3 c (a2.trans hc)).trans (a3 c hc)⟩
section
variable {P : Program} {base : Nat} {w0 w w' : World} {rho : Nat → Option Nat} {H H' : Heap}

theorem PR.lt (h : PR P base w0 rho H w) : ∀ b c, rho b = some c → b < H.n := fun b c hr => (h.dom b c hr).1

theorem PR.of_mu (h : PR P base w0 rho H w) {b c : Nat} (hm : (mu rho H w).b b c) (ha : (H.get b).alive) : rho b = some c := hm.2 ha

/-- The world's draws do not matter. -/
theorem PR.drawn (h : PR P base w0 rho H w) (n : Nat) : PR P base w0 rho H { w with drawn := n } where
  below := ⟨h.below.os, h.below.tape, h.below.output, h.below.size, h.below.block⟩
  base_le := h.base_le
  wn := h.wn
  dom := h.dom
  inj := h.inj
  blk := h.blk
  out := h.out

theorem below_of (h : Below base w0 w) (hos : w'.os = w.os) (htape : w'.tape = w.tape) (hout : w'.output = w.output) (hsz : w.heap.size ≤ w'.heap.size)
    (hb : ∀ k, k < base → w'.heap[k]? = w.heap[k]?) : Below base w0 w' :=
  ⟨hos.trans h.os, htape.trans h.tape, hout.trans h.output, Nat.le_trans h.size hsz, fun k hk => (hb k hk).trans (h.block k hk)⟩

/-- The same blocks, another mark. -/
theorem PR.remark (h : PR P base w0 rho H w) (hn : H'.n = H.n) (ht : ∀ b, H'.get b = H.get b) (hw : H'.wlo ≤ H'.n) : PR P base w0 rho H' w := by
  have hm : (mu rho H w).le (mu rho H' w) := ⟨fun b c hm => ⟨by rw [hn]; exact hm.1, by rw [ht]; exact hm.2⟩, fun _ _ h => h⟩
  exact ⟨h.below, h.base_le, hw, fun b c hr => by rw [hn, ht]; exact h.dom b c hr, h.inj, fun b c hr => by
    obtain ⟨o, h1, h2⟩ := h.blk b c hr
    rw [ht]
    exact ⟨o, h1, h2.mono hm⟩, fun b hb => by rw [ht]; exact h.out b (by omega)⟩

structure Same (w w' : World) : Prop where
  os : w'.os = w.os
  tape : w'.tape = w.tape
  output : w'.output = w.output

/-- A new block. -/
theorem PR.alloc (h : PR P base w0 rho H w) {bl : Blk} {o : Obj} (hn : H'.n = H.n + 1) (hw : H'.wlo = H.wlo) (hg : H'.get H.n = bl) (ho : ∀ j, j ≠ H.n → H'.get j = H.get j)
    (ha : bl.alive) (hs : Same w w') (hsz : w'.heap.size = w.heap.size + 1) (hnew : w'.heap[w.heap.size]? = some o) (hold : ∀ j, j < w.heap.size → w'.heap[j]? = w.heap[j]?)
    (hb : BR P (mu rho H w) bl o) :
    PR P base w0 (fun b => if b = H.n then some w.heap.size else rho b) H' w' ∧ Ext rho H w (fun b => if b = H.n then some w.heap.size else rho b) H' w' := by
  have hlt := h.lt
  have hE : Ext rho H w (fun b => if b = H.n then some w.heap.size else rho b) H' w' := by
    refine ⟨by omega, by omega, by omega, fun b hb _ => ⟨ho b (by omega), by simp [Nat.ne_of_lt hb]⟩, fun b c hb hr => ?_, fun b c hr _ => ?_, fun b hb hal => ?_, fun b c hb hr => ?_, fun c hc _ => hold c hc, fun b hm => ?_, fun c cs e fr hc => ⟨cs, e, fr, (hold c (Array.getElem?_eq_some_iff.1 hc).1).trans hc, rfl⟩⟩
    · simpa [Nat.ne_of_lt hb] using hr
    · have := hlt b c hr; simp [Nat.ne_of_lt this, hr]
    · rwa [ho b (by omega)] at hal
    · by_cases hb' : b = H.n
      · simp [hb'] at hr; omega
      · simp [hb'] at hr; have := hlt b c hr; omega
    · have hb' : b ≠ H.n := fun e => by subst e; rw [h.out H.n (Nat.le_refl _)] at hm; cases hm
      exact ⟨(ho b hb').trans hm, by simp [hb'], fun c hc => hold c (h.dom b c hc).2.2.1⟩
  refine ⟨⟨below_of h.below hs.os hs.tape hs.output (by omega) fun k hk => hold k (by have := h.base_le; omega), by have := h.base_le; omega, by have := h.wn; omega, fun b c hr => ?_, fun b b' c hr hr' => ?_, fun b c hr => ?_, fun b hb' => ?_⟩, hE⟩
  · by_cases hb' : b = H.n
    · subst hb'
      simp at hr
      subst hr
      exact ⟨by omega, h.base_le, by omega, by rw [hg]; exact ha⟩
    · simp [hb'] at hr
      obtain ⟨h1, h2, h3, h4⟩ := h.dom b c hr
      exact ⟨by omega, h2, by omega, by rw [ho b hb']; exact h4⟩
  · by_cases h1 : b = H.n <;> by_cases h2 : b' = H.n <;> simp [h1, h2] at hr hr'
    · omega
    · have := (h.dom b' c hr').2.2.1; omega
    · have := (h.dom b c hr).2.2.1; omega
    · exact h.inj b b' c hr hr'
  · by_cases hb' : b = H.n
    · subst hb'
      simp at hr
      subst hr
      exact ⟨o, hnew, by rw [hg]; exact hb.mono hE.mu⟩
    · simp [hb'] at hr
      obtain ⟨o', h1, h2⟩ := h.blk b c hr
      refine ⟨o', (hold c (h.dom b c hr).2.2.1).trans h1, ?_⟩
      rw [ho b hb']
      exact h2.mono hE.mu
  · rw [ho b (by omega)]
    exact h.out b (by omega)

/-- A block that is written. -/
theorem PR.write (h : PR P base w0 rho H w) {b c : Nat} {bl : Blk} {o : Obj} (hr : rho b = some c) (hnm : H.get b ≠ .mark) (hn : H'.n = H.n) (hw : H'.wlo ≤ H.wlo) (hwb : H'.wlo ≤ b) (hg : H'.get b = bl)
    (ho : ∀ j, j ≠ b → H'.get j = H.get j) (ha : bl.alive) (hs : Same w w') (hsz : w'.heap.size = w.heap.size) (hnew : w'.heap[c]? = some o) (hold : ∀ j, j ≠ c → w'.heap[j]? = w.heap[j]?)
    (hb : BR P (mu rho H w) bl o) (hz : ∀ cs e fr, w.heap[c]? = some (.cells cs e fr) → ∃ cs' e' fr', o = .cells cs' e' fr' ∧ cs'.size = cs.size) : PR P base w0 rho H' w' ∧ Ext rho H w rho H' w' := by
  have hlt := h.lt
  have hd := h.dom b c hr
  have hE : Ext rho H w rho H' w' := by
    refine ⟨by omega, hw, by omega, fun j hj hjw => ⟨ho j (by omega), rfl⟩, fun _ _ _ h => h, fun _ _ h _ => h, fun j hj hal => ?_, fun j c' hj hr' => ?_, fun j hj hjw => hold j fun e => ?_, fun j hm => ⟨(ho j fun e => by subst e; exact hnm hm).trans hm, rfl, fun c1 hc1 => hold c1 fun e => hnm (by subst e; rw [← h.inj j b c1 hc1 hr]; exact hm)⟩, fun j cs e fr hj => ?_⟩
    · by_cases hjb : j = b
      · subst hjb; exact hd.2.2.2
      · rwa [ho j hjb] at hal
    · have := hlt j c' hr'; omega
    · subst e; have := hjw b hr; omega
    · by_cases hjc : j = c
      · subst hjc
        obtain ⟨cs', e', fr', h1, h2⟩ := hz cs e fr hj
        exact ⟨cs', e', fr', by rw [hnew, h1], h2⟩
      · exact ⟨cs, e, fr, (hold j hjc).trans hj, rfl⟩
  refine ⟨⟨below_of h.below hs.os hs.tape hs.output (by omega) fun k hk => hold k (by omega), by have := h.base_le; omega, by have := h.wn; omega, fun j c' hr' => ?_, h.inj, fun j c' hr' => ?_, fun j hj => ?_⟩, hE⟩
  · obtain ⟨h1, h2, h3, h4⟩ := h.dom j c' hr'
    refine ⟨by omega, h2, by omega, ?_⟩
    by_cases hjb : j = b
    · subst hjb; rw [hg]; exact ha
    · rw [ho j hjb]; exact h4
  · by_cases hjb : j = b
    · subst hjb
      rw [hr] at hr'
      cases hr'
      exact ⟨o, hnew, by rw [hg]; exact hb.mono hE.mu⟩
    · obtain ⟨o', h1, h2⟩ := h.blk j c' hr'
      refine ⟨o', (hold c' fun e => hjb (h.inj j b c' hr' (e ▸ hr))).trans h1, ?_⟩
      rw [ho j hjb]
      exact h2.mono hE.mu
  · rw [ho j (by omega)]
    exact h.out j (by omega)

/-- A row that is appended to: the elder block dies; the new one lies where it lay, or behind all. -/
theorem PR.move (h : PR P base w0 rho H w) {b c c' : Nat} {bl : Blk} {o : Obj} (hr : rho b = some c) (hnm : H.get b ≠ .mark) (hn : H'.n = H.n + 1) (hw : H'.wlo ≤ H.wlo) (hwb : H'.wlo ≤ b) (hd : H'.get b = .dead) (hg : H'.get H.n = bl)
    (ho : ∀ j, j ≠ b → j ≠ H.n → H'.get j = H.get j) (ha : bl.alive) (hs : Same w w') (hsz : w.heap.size ≤ w'.heap.size) (hc' : c' = c ∨ w.heap.size ≤ c') (hc'' : c' < w'.heap.size) (hnew : w'.heap[c']? = some o)
    (hold : ∀ j, j < w.heap.size → j ≠ c → w'.heap[j]? = w.heap[j]?)
    (hb : BR P (mu rho H w) bl o) (hz : ∀ cs e fr, w.heap[c]? = some (.cells cs e fr) → ∃ cs' e' fr', w'.heap[c]? = some (.cells cs' e' fr') ∧ cs'.size = cs.size) :
    PR P base w0 (fun j => if j = H.n then some c' else if j = b then none else rho j) H' w' ∧ Ext rho H w (fun j => if j = H.n then some c' else if j = b then none else rho j) H' w' := by
  have hlt := h.lt
  have hdm := h.dom b c hr
  have hbn : b ≠ H.n := by omega
  have hE : Ext rho H w (fun j => if j = H.n then some c' else if j = b then none else rho j) H' w' := by
    refine ⟨by omega, hw, hsz, fun j hj hjw => ⟨ho j (by omega) (by omega), (fun (hjb : j ≠ b) => by simp [Nat.ne_of_lt hj, hjb]) (by omega)⟩, fun j c1 hj h1 => ?_, fun j c1 h1 hal => ?_, fun j hj hal => ?_, fun j c1 hj h1 => ?_, fun j hj hjw => hold j hj fun e => ?_, fun j hm => ?_, fun j cs e fr hj => ?_⟩
    · simp only [Nat.ne_of_lt hj, if_false] at h1
      split at h1
      · cases h1
      · exact h1
    · have h2 := hlt j c1 h1
      by_cases hjb : j = b
      · subst hjb; rw [hd] at hal; exact hal.elim
      · simp [Nat.ne_of_lt h2, hjb, h1]
    · by_cases hjb : j = b
      · subst hjb; exact hdm.2.2.2
      · rwa [ho j hjb (by omega)] at hal
    · by_cases hjn : j = H.n
      · simp [hjn] at h1
        subst h1
        rcases hc' with e | e
        · exact Or.inr ⟨b, e ▸ hr, hwb⟩
        · exact Or.inl e
      · by_cases hjb : j = b
        · omega
        · simp [hjn, hjb] at h1
          have := hlt j c1 h1
          omega
    · subst e; have := hjw b hr; omega
    · have h1 : j ≠ H.n := fun e => by subst e; rw [h.out H.n (Nat.le_refl _)] at hm; cases hm
      have h2 : j ≠ b := fun e => by subst e; exact hnm hm
      exact ⟨(ho j h2 h1).trans hm, by simp [h1, h2], fun c1 hc1 => hold c1 (h.dom j c1 hc1).2.2.1 fun e => h2 (h.inj j b c1 hc1 (e ▸ hr))⟩
    · by_cases hjc : j = c
      · subst hjc; exact hz cs e fr hj
      · exact ⟨cs, e, fr, (hold j (Array.getElem?_eq_some_iff.1 hj).1 hjc).trans hj, rfl⟩
  refine ⟨⟨below_of h.below hs.os hs.tape hs.output hsz fun k hk => hold k (by have := h.base_le; omega) (by omega), by have := h.base_le; omega, by have := h.wn; omega, fun j c1 hr' => ?_, fun j j' c1 hr1 hr2 => ?_, fun j c1 hr' => ?_, fun j hj => ?_⟩, hE⟩
  · by_cases hjn : j = H.n
    · simp [hjn] at hr'
      subst hr'
      subst hjn
      refine ⟨by omega, ?_, hc'', by rw [hg]; exact ha⟩
      rcases hc' with e | e
      · omega
      · have := h.base_le; omega
    · by_cases hjb : j = b
      · simp [hjb, hbn] at hr'
      · simp [hjn, hjb] at hr'
        obtain ⟨h1, h2, h3, h4⟩ := h.dom j c1 hr'
        exact ⟨by omega, h2, by omega, by rw [ho j hjb hjn]; exact h4⟩
  · have key : ∀ j, j ≠ H.n → j ≠ b → rho j = some c' → False := by
      intro j _ hj2 hj3
      rcases hc' with e | e
      · subst e; exact hj2 (h.inj j b c' hj3 hr)
      · have := (h.dom j c' hj3).2.2.1; omega
    by_cases h1 : j = H.n <;> by_cases h2 : j' = H.n
    · omega
    · by_cases h3 : j' = b
      · simp [h2, h3, hbn] at hr2
      · simp [h2, h3] at hr2
        simp [h1] at hr1
        subst hr1
        exact (key j' h2 h3 hr2).elim
    · by_cases h3 : j = b
      · simp [h1, h3, hbn] at hr1
      · simp [h1, h3] at hr1
        simp [h2] at hr2
        subst hr2
        exact (key j h1 h3 hr1).elim
    · by_cases h3 : j = b
      · simp [h1, h3, hbn] at hr1
      · by_cases h4 : j' = b
        · simp [h2, h4, hbn] at hr2
        · simp [h1, h3] at hr1
          simp [h2, h4] at hr2
          exact h.inj j j' c1 hr1 hr2
  · by_cases hjn : j = H.n
    · simp [hjn] at hr'
      subst hr'
      subst hjn
      exact ⟨o, hnew, by rw [hg]; exact hb.mono hE.mu⟩
    · by_cases hjb : j = b
      · simp [hjb, hbn] at hr'
      · simp [hjn, hjb] at hr'
        obtain ⟨o', h1, h2⟩ := h.blk j c1 hr'
        refine ⟨o', (hold c1 (h.dom j c1 hr').2.2.1 fun e => hjb (h.inj j b c1 hr' (e ▸ hr))).trans h1, ?_⟩
        rw [ho j hjb hjn]
        exact h2.mono hE.mu
  · rw [ho j (by omega) (by omega)]
    exact h.out j (by omega)

/-- A new block that stands for nothing. -/
theorem PR.ghost (h : PR P base w0 rho H w) {bl : Blk} (hn : H'.n = H.n + 1) (hw : H'.wlo = H.wlo) (hg : H'.get H.n = bl) (ho : ∀ j, j ≠ H.n → H'.get j = H.get j) :
    PR P base w0 rho H' w ∧ Ext rho H w rho H' w := by
  have hlt := h.lt
  have hE : Ext rho H w rho H' w := by
    refine ⟨by omega, by omega, by omega, fun b hb _ => ⟨ho b (by omega), rfl⟩, fun _ _ _ h => h, fun _ _ h _ => h, fun b hb hal => by rwa [ho b (by omega)] at hal, fun b c hb hr => absurd (hlt b c hr) (by omega), fun _ _ _ => rfl, fun b hm => ⟨?_, rfl, fun _ _ => rfl⟩, fun c cs e fr h => ⟨cs, e, fr, h, rfl⟩⟩
    exact (ho b fun e => by subst e; rw [h.out H.n (Nat.le_refl _)] at hm; cases hm).trans hm
  refine ⟨⟨h.below, h.base_le, by have := h.wn; omega, fun b c hr => ?_, h.inj, fun b c hr => ?_, fun b hb => ?_⟩, hE⟩
  · obtain ⟨h1, h2, h3, h4⟩ := h.dom b c hr
    exact ⟨by omega, h2, h3, by rw [ho b (by omega)]; exact h4⟩
  · obtain ⟨o, h1, h2⟩ := h.blk b c hr
    have := hlt b c hr
    exact ⟨o, h1, by rw [ho b (by omega)]; exact h2.mono hE.mu⟩
  · rw [ho b (by omega)]
    exact h.out b (by omega)
end
end Go.Ev
