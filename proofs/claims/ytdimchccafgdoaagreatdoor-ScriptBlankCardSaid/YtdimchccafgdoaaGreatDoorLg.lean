/- Lg: a part of the evaluator,of its logic,or of the laws' walk in it. -/
import Derived.Test.YtdimchccafgdoaaGreatDoorEvD
set_option linter.unusedVariables false
set_option linter.unusedSimpArgs false
set_option linter.unusedSectionVars false
section
namespace Go.Ev
def HT.has:HT→Nat→Prop
 | .e,_=>False
 | .n _ _ _,0=>True
 | .n _ l r,j+1=>if j % 2=0 then l.has (j / 2) else r.has (j / 2)
def HT.put (x:Blk):HT→Nat→HT
 | .e,_ => .n x .e .e
 | .n _ l r,0 => .n x l r
 | .n u l r,j+1=>if j % 2=0 then .n u (l.put x (j / 2)) r else .n u l (r.put x (j / 2))
def HT.can:HT→Nat→Prop
 | .e,k=>k=0
 | .n _ _ _,0=>True
 | .n _ l r,j+1=>if j % 2=0 then l.can (j / 2) else r.can (j / 2)
theorem HT.has_can:∀ (t:HT) (k:Nat),t.has k→t.can k
 | .e,_,h=>h.elim
 | .n _ _ _,0,_=>trivial
 | .n _ l r,j+1,h=>by
  simp only [HT.has,HT.can] at h ⊢
  split
  ·rename_i hj;rw [if_pos hj] at h;exact has_can l _ h
  ·rename_i hj;rw [if_neg hj] at h;exact has_can r _ h
theorem HT.can_next:∀ (t:HT) (k:Nat),(∀ j,j<k→t.has j)→t.can k
 | .e,k,h=>by
  cases k with
  | zero=>rfl
  | succ k=>exact (h 0 (by omega)).elim
 | .n _ _ _,0,_=>trivial
 | .n u l r,j+1,h=>by
  simp only [HT.can]
  split
  ·rename_i hj
   refine can_next l _ fun i hi => ?_
   have:=h (2 * i+1) (by omega)
   simp only [HT.has] at this
   rw [if_pos (by omega),show 2 * i / 2=i by omega] at this
   exact this
  ·rename_i hj
   refine can_next r _ fun i hi => ?_
   have:=h (2 * i+1+1) (by omega)
   simp only [HT.has] at this
   rw [if_neg (by omega),show (2 * i+1) / 2=i by omega] at this
   exact this
theorem HT.set_put {x:Blk}:∀ (t:HT) (k:Nat) (c:HT→R),t.can k→t.set x k c=c (t.put x k)
 | .e,k,c,h=>by
  simp only [HT.can] at h
  subst h
  rfl
 | .n _ _ _,0,_,_=>rfl
 | .n u l r,j+1,c,h=>by
  simp only [HT.can] at h
  show Nat.rec (motive:=fun _=>R) (l.set x (j / 2) fun l'=>c (.n u l' r)) (fun _ _=>r.set x (j / 2) fun r'=>c (.n u l r')) (j % 2)=_
  simp only [HT.put]
  by_cases hj:j % 2=0
  ·rw [if_pos hj] at h ⊢
   rw [hj]
   exact set_put l _ _ h
  ·rw [if_neg hj] at h ⊢
   rw [show j % 2=1 by omega]
   exact set_put r _ _ h
theorem HT.get_put {x:Blk}:∀ (t:HT) (k j:Nat),t.can k→(t.put x k).get j=if j=k then x else t.get j
 | .e,k,j,h=>by
  simp only [HT.can] at h
  subst h
  cases j with
  | zero=>rfl
  | succ j=>simp only [HT.put,HT.get_succ,HT.get_e];simp
 | .n u l r,0,j,_=>by
  cases j with
  | zero=>rfl
  | succ j=>simp only [HT.put,HT.get_succ];simp
 | .n u l r,k+1,j,h=>by
  simp only [HT.can] at h
  by_cases hk:k % 2=0
  ·rw [if_pos hk] at h
   simp only [HT.put,if_pos hk]
   cases j with
   | zero=>simp [HT.get_zero]
   | succ j=>
    simp only [HT.get_succ,get_put l _ _ h]
    by_cases hj:j % 2=0
    ·simp only [if_pos hj]
     by_cases he:j=k
     ·subst he;simp
     ·rw [if_neg (by omega),if_neg (by omega)]
    ·simp only [if_neg hj]
     rw [if_neg (by omega)]
  ·rw [if_neg hk] at h
   simp only [HT.put,if_neg hk]
   cases j with
   | zero=>simp [HT.get_zero]
   | succ j=>
    simp only [HT.get_succ,get_put r _ _ h]
    by_cases hj:j % 2=0
    ·simp only [if_pos hj]
     rw [if_neg (by omega)]
    ·simp only [if_neg hj]
     by_cases he:j=k
     ·subst he;simp
     ·rw [if_neg (by omega),if_neg (by omega)]
theorem HT.has_put {x:Blk}:∀ (t:HT) (k j:Nat),t.can k→((t.put x k).has j↔j=k∨t.has j)
 | .e,k,j,h=>by
  simp only [HT.can] at h
  subst h
  cases j with
  | zero=>simp [HT.put,HT.has]
  | succ j=>simp only [HT.put,HT.has];split <;> simp
 | .n u l r,0,j,_=>by
  cases j with
  | zero=>simp [HT.put,HT.has]
  | succ j=>simp [HT.put,HT.has]
 | .n u l r,k+1,j,h=>by
  simp only [HT.can] at h
  by_cases hk:k % 2=0
  ·rw [if_pos hk] at h
   simp only [HT.put,if_pos hk]
   cases j with
   | zero=>simp [HT.has]
   | succ j=>
    simp only [HT.has]
    by_cases hj:j % 2=0
    ·simp only [if_pos hj,has_put l _ _ h]
     constructor <;> rintro (h | h) <;> first | exact Or.inr h | (left;omega)
    ·simp only [if_neg hj]
     constructor
     ·exact Or.inr
     ·rintro (h | h)
      ·omega
      ·exact h
  ·rw [if_neg hk] at h
   simp only [HT.put,if_neg hk]
   cases j with
   | zero=>simp [HT.has]
   | succ j=>
    simp only [HT.has]
    by_cases hj:j % 2=0
    ·simp only [if_pos hj]
     constructor
     ·exact Or.inr
     ·rintro (h | h)
      ·omega
      ·exact h
    ·simp only [if_neg hj,has_put r _ _ h]
     constructor <;> rintro (h | h) <;> first | exact Or.inr h | (left;omega)
def Heap.wf (H:Heap):Prop:=∀ b,b<H.n→H.t.has b
open Classical in
noncomputable def Heap.put (H:Heap) (b:Nat) (x:Blk):Heap:=if H.wf∧b<H.n then .mk H.n (if H.wlo≤b then H.wlo else b) (H.t.put x b) else H
open Classical in
noncomputable def Heap.new (H:Heap) (x:Blk):Heap := .mk (H.n+1) H.wlo (if H.wf then H.t.put x H.n else H.t)
section
variable {H:Heap} {b:Nat} {x y:Blk}
theorem Heap.put_def (h:H.wf) (hb:b<H.n):H.put b x = .mk H.n (if H.wlo≤b then H.wlo else b) (H.t.put x b):=if_pos ⟨h,hb⟩
theorem Heap.new_def (h:H.wf):H.new x = .mk (H.n+1) H.wlo (H.t.put x H.n):=by
 unfold Heap.new
 rw [if_pos h]
theorem Heap.n_put:(H.put b x).n=H.n:=by
 unfold Heap.put
 split <;> rfl
theorem Heap.n_new:(H.new x).n=H.n+1:=Eq.trans rfl rfl
theorem Heap.wlo_new:(H.new x).wlo=H.wlo:=Eq.trans rfl rfl
theorem Heap.wlo_put (h:H.wf) (hb:b<H.n):(H.put b x).wlo=if H.wlo≤b then H.wlo else b:=by rw [Heap.put_def h hb];rfl
theorem Heap.wf.can (h:H.wf) (hb:b≤H.n):H.t.can b:=by
 rcases Nat.lt_or_eq_of_le hb with hb | rfl
 ·exact H.t.has_can b (h b hb)
 ·exact H.t.can_next _ h
theorem Heap.wf_put:(H.put b x).wf=H.wf:=by
 by_cases h:H.wf∧b<H.n
 ·rw [Heap.put_def h.1 h.2]
  exact propext ⟨fun _=>h.1,fun _ j hj=>(HT.has_put _ _ _ (h.1.can (Nat.le_of_lt h.2))).2 (Or.inr (h.1 j hj))⟩
 ·unfold Heap.put
  rw [if_neg h]
theorem Heap.wf_new:(H.new x).wf=H.wf:=by
 by_cases h:H.wf
 ·rw [Heap.new_def h]
  exact propext ⟨fun _=>h,fun _ j hj=>(HT.has_put _ _ _ (h.can (Nat.le_refl _))).2 (by
   have:j<H.n+1:=hj
   rcases Nat.lt_or_ge j H.n with h' | h'
   ·exact Or.inr (h j h')
   ·exact Or.inl (by omega))⟩
 ·refine propext ⟨fun h2=>absurd (fun j hj => ?_) h,fun h2=>absurd h2 h⟩
  have:=h2 j (Nat.lt_succ_of_lt hj)
  unfold Heap.new at this
  rw [if_neg h] at this
  exact this
theorem Heap.get_put (h:H.wf) (hb:b<H.n) (j:Nat):(H.put b x).get j=if j=b then x else H.get j:=by
 rw [Heap.put_def h hb]
 exact HT.get_put _ _ _ (h.can (Nat.le_of_lt hb))
theorem Heap.get_new (h:H.wf) (j:Nat):(H.new x).get j=if j=H.n then x else H.get j:=by
 rw [Heap.new_def h]
 exact HT.get_put _ _ _ (h.can (Nat.le_refl _))
theorem hSet_put {id:Nat} {k:Heap→R} (h:H.wf) (hb:b<H.n):hSet id H b x k=k (H.put b x):=by
 rw [Heap.put_def h hb]
 cases H with
 | mk n wlo t=>
  show ifB (Nat.blt b n) (HT.set x t b fun t'=>ifB (Nat.ble wlo b) (k (.mk n wlo t')) (k (.mk n b t'))) (no 0)=_
  have hb':b<n:=hb
  have h1:Nat.blt b n=true:=Nat.ble_eq_true_of_le hb'
  rw [h1]
  show HT.set x t b _=_
  rw [HT.set_put t _ _ (h.can (Nat.le_of_lt hb))]
  show ifB (Nat.ble wlo b) _ _=k (.mk n (if wlo≤b then wlo else b) (t.put x b))
  by_cases hw:wlo≤b
  ·rw [Nat.ble_eq_true_of_le hw,if_pos hw];rfl
  ·have:Nat.ble wlo b=false:=by
    cases hc:Nat.ble wlo b with
    | false=>rfl
    | true=>exact absurd (Nat.le_of_ble_eq_true hc) hw
   rw [this,if_neg hw];rfl
theorem hNew_new {k:Nat→Heap→R} (h:H.wf):hNew H x k=k H.n (H.new x):=by
 rw [Heap.new_def h]
 cases H with
 | mk n wlo t=>
  show HT.set x t n (fun t'=>forceN (Nat.succ n) fun n'=>k n (.mk n' wlo t'))=_
  rw [HT.set_put t n _ (h.can (Nat.le_refl n)),forceN_eq]
  rfl
end
theorem HT.put_put {x y:Blk}:∀ (t:HT) (k:Nat),t.can k→(t.put x k).put y k=t.put y k
 | .e,k,h=>by
  simp only [HT.can] at h
  subst h
  rfl
 | .n _ _ _,0,_=>rfl
 | .n u l r,k+1,h=>by
  simp only [HT.can] at h
  simp only [HT.put]
  by_cases hk:k % 2=0
  ·rw [if_pos hk] at h
   simp only [if_pos hk,HT.put,put_put l _ h]
  ·rw [if_neg hk] at h
   simp only [if_neg hk,HT.put,put_put r _ h]
theorem Heap.put_put {H:Heap} {b:Nat} {x y:Blk}:(H.put b x).put b y=H.put b y:=by
 by_cases h:H.wf∧b<H.n
 ·have h1:(H.put b x).wf:=by rw [Heap.wf_put];exact h.1
  have h2:b < (H.put b x).n:=by rw [Heap.n_put];exact h.2
  rw [Heap.put_def h1 h2,Heap.put_def h.1 h.2,Heap.put_def h.1 h.2]
  show Heap.mk H.n (if (if H.wlo≤b then H.wlo else b)≤b then (if H.wlo≤b then H.wlo else b) else b) ((H.t.put x b).put y b)=Heap.mk H.n _ _
  rw [HT.put_put _ _ (h.1.can (Nat.le_of_lt h.2))]
  congr 1
  split <;> simp_all
 ·have e:H.put b x=H:=if_neg h
  rw [e]
theorem ifB_if {c:Bool} {t f:R}:ifB c t f=if c=true then t else f:=by cases c <;> rfl
@[simp] theorem nblt {a b:Nat}:(Nat.blt a b=true)=(a<b):=by
 apply propext
 exact ⟨fun h=>Nat.le_of_ble_eq_true h,fun h=>Nat.ble_eq_true_of_le h⟩
@[simp] theorem nble {a b:Nat}:(Nat.ble a b=true)=(a≤b):=by
 apply propext
 exact ⟨fun h=>Nat.le_of_ble_eq_true h,fun h=>Nat.ble_eq_true_of_le h⟩
@[simp] theorem nbeq {a b:Nat}:(Nat.beq a b=true)=(a=b):=by
 apply propext
 exact ⟨fun h=>Nat.eq_of_beq_eq_true h,fun h=>by subst h;exact Nat.beq_refl a⟩
end Go.Ev
end
section
namespace Go.Ev
section
variable {id:Nat} {x y:V}
@[congr] theorem vInt_congr {f:Nat→Nat→R} (h:x=y):vInt id x f=vInt id y f:=by rw [h]
@[congr] theorem vBool_congr {f:Bool→R} (h:x=y):vBool id x f=vBool id y f:=by rw [h]
@[congr] theorem vStr_congr {f:Nat→Nat→R} (h:x=y):vStr id x f=vStr id y f:=by rw [h]
@[congr] theorem vPtr_congr {f:Nat→Nat→R} (h:x=y):vPtr id x f=vPtr id y f:=by rw [h]
@[congr] theorem vSlice_congr {f:Nat→Nat→Nat→Nat→Nat→R} (h:x=y):vSlice id x f=vSlice id y f:=by rw [h]
@[congr] theorem vSliceN_congr {f:Nat→Nat→Nat→Nat→Nat→R} {z:R} (h:x=y):vSliceN id x f z=vSliceN id y f z:=by rw [h]
@[congr] theorem vMap_congr {f:Nat→R} (h:x=y):vMap id x f=vMap id y f:=by rw [h]
@[congr] theorem vMapN_congr {f:Nat→R} {z:R} (h:x=y):vMapN id x f z=vMapN id y f z:=by rw [h]
@[congr] theorem vFunc_congr {f:Nat→List V→R} (h:x=y):vFunc id x f=vFunc id y f:=by rw [h]
@[congr] theorem vAgg_congr {f:List V→R} (h:x=y):vAgg id x f=vAgg id y f:=by rw [h]
@[congr] theorem vTup_congr {f:List V→R} (h:x=y):vTup id x f=vTup id y f:=by rw [h]
@[congr] theorem vCells_congr {f:List V→R} (h:x=y):vCells id x f=vCells id y f:=by rw [h]
@[congr] theorem isOne_congr {f:R} (h:x=y):isOne id x f=isOne id y f:=by rw [h]
@[congr] theorem isKey_congr {f:R} (h:x=y):isKey id x f=isKey id y f:=by rw [h]
@[congr] theorem nilly_congr {f:Nat→R} (h:x=y):nilly id x f=nilly id y f:=by rw [h]
@[congr] theorem isB_congr {b:Bool} {t f:R} (h:x=y):isB x b t f=isB y b t f:=by rw [h]
theorem vInt_int {k n:Nat} {f:Nat→Nat→R}:vInt id (.int k n) f=f k n:=Eq.trans rfl rfl
theorem vBool_bool {b:Bool} {f:Bool→R}:vBool id (.bool b) f=f b:=Eq.trans rfl rfl
theorem vStr_str {l n:Nat} {f:Nat→Nat→R}:vStr id (.str l n) f=f l n:=Eq.trans rfl rfl
theorem vPtr_ptr {b o:Nat} {f:Nat→Nat→R}:vPtr id (.ptr b o) f=f b o:=Eq.trans rfl rfl
theorem vSlice_slice {b o l c s:Nat} {f:Nat→Nat→Nat→Nat→Nat→R}:vSlice id (.slice b o l c s) f=f b o l c s:=Eq.trans rfl rfl
theorem vSliceN_slice {b o l c s:Nat} {f:Nat→Nat→Nat→Nat→Nat→R} {z:R}:vSliceN id (.slice b o l c s) f z=f b o l c s:=Eq.trans rfl rfl
theorem vSliceN_nils {f:Nat→Nat→Nat→Nat→Nat→R} {z:R}:vSliceN id .nils f z=z:=Eq.trans rfl rfl
theorem vMap_map {b:Nat} {f:Nat→R}:vMap id (.map b) f=f b:=Eq.trans rfl rfl
theorem vMapN_map {b:Nat} {f:Nat→R} {z:R}:vMapN id (.map b) f z=f b:=Eq.trans rfl rfl
theorem vMapN_nilm {f:Nat→R} {z:R}:vMapN id .nilm f z=z:=Eq.trans rfl rfl
theorem vFunc_func {n:Nat} {l:List V} {f:Nat→List V→R}:vFunc id (.func n l) f=f n l:=Eq.trans rfl rfl
theorem vAgg_agg {l:List V} {f:List V→R}:vAgg id (.agg l) f=f l:=Eq.trans rfl rfl
@[congr] theorem vIf_congr {t:Nat} {f:V→R} (h:x=y):vIf id t x f=vIf id t y f:=by rw [h]
theorem vIf_iface {t:Nat} {v:V} {f:V→R}:vIf id t (.iface t v) f=f v:=by
 show ifB (Nat.beq t t) (f v) (no 0)=_
 rw [Nat.beq_refl]
 rfl
theorem vTup_tup {l:List V} {f:List V→R}:vTup id (.tup l) f=f l:=Eq.trans rfl rfl
theorem vCells_int {k n:Nat} {f:List V→R}:vCells id (.int k n) f=f [.int k n]:=Eq.trans rfl rfl
theorem vCells_bool {b:Bool} {f:List V→R}:vCells id (.bool b) f=f [.bool b]:=Eq.trans rfl rfl
theorem vCells_str {l n:Nat} {f:List V→R}:vCells id (.str l n) f=f [.str l n]:=Eq.trans rfl rfl
theorem vCells_ptr {b o:Nat} {f:List V→R}:vCells id (.ptr b o) f=f [.ptr b o]:=Eq.trans rfl rfl
theorem vCells_nilp {f:List V→R}:vCells id .nilp f=f [.nilp]:=Eq.trans rfl rfl
theorem vCells_slice {b o l c s:Nat} {f:List V→R}:vCells id (.slice b o l c s) f=f [.slice b o l c s]:=Eq.trans rfl rfl
theorem vCells_nils {f:List V→R}:vCells id .nils f=f [.nils]:=Eq.trans rfl rfl
theorem vCells_map {b:Nat} {f:List V→R}:vCells id (.map b) f=f [.map b]:=Eq.trans rfl rfl
theorem vCells_nilm {f:List V→R}:vCells id .nilm f=f [.nilm]:=Eq.trans rfl rfl
theorem vCells_func {n:Nat} {l:List V} {f:List V→R}:vCells id (.func n l) f=f [.func n l]:=Eq.trans rfl rfl
theorem vCells_nilf {f:List V→R}:vCells id .nilf f=f [.nilf]:=Eq.trans rfl rfl
theorem vCells_agg {l:List V} {f:List V→R}:vCells id (.agg l) f=f l:=Eq.trans rfl rfl
theorem isOne_int {k n:Nat} {f:R}:isOne id (.int k n) f=f:=Eq.trans rfl rfl
theorem isOne_bool {b:Bool} {f:R}:isOne id (.bool b) f=f:=Eq.trans rfl rfl
theorem isOne_str {l n:Nat} {f:R}:isOne id (.str l n) f=f:=Eq.trans rfl rfl
theorem isOne_ptr {b o:Nat} {f:R}:isOne id (.ptr b o) f=f:=Eq.trans rfl rfl
theorem isOne_nilp {f:R}:isOne id .nilp f=f:=Eq.trans rfl rfl
theorem isOne_slice {b o l c s:Nat} {f:R}:isOne id (.slice b o l c s) f=f:=Eq.trans rfl rfl
theorem isOne_nils {f:R}:isOne id .nils f=f:=Eq.trans rfl rfl
theorem isOne_map {b:Nat} {f:R}:isOne id (.map b) f=f:=Eq.trans rfl rfl
theorem isOne_nilm {f:R}:isOne id .nilm f=f:=Eq.trans rfl rfl
theorem isOne_func {n:Nat} {l:List V} {f:R}:isOne id (.func n l) f=f:=Eq.trans rfl rfl
theorem isOne_nilf {f:R}:isOne id .nilf f=f:=Eq.trans rfl rfl
theorem isKey_int {k n:Nat} {f:R}:isKey id (.int k n) f=f:=Eq.trans rfl rfl
theorem isKey_str {l n:Nat} {f:R}:isKey id (.str l n) f=f:=Eq.trans rfl rfl
theorem nilly_bool {b:Bool} {f:Nat→R}:nilly id (.bool b) f=ifB b (f 2) (f 3):=Eq.trans rfl rfl
theorem nilly_ptr {b o:Nat} {f:Nat→R}:nilly id (.ptr b o) f=f 11:=Eq.trans rfl rfl
theorem nilly_nilp {f:Nat→R}:nilly id .nilp f=f 10:=Eq.trans rfl rfl
theorem nilly_slice {b o l c s:Nat} {f:Nat→R}:nilly id (.slice b o l c s) f=f 21:=Eq.trans rfl rfl
theorem nilly_nils {f:Nat→R}:nilly id .nils f=f 20:=Eq.trans rfl rfl
theorem nilly_map {b:Nat} {f:Nat→R}:nilly id (.map b) f=f 31:=Eq.trans rfl rfl
theorem nilly_nilm {f:Nat→R}:nilly id .nilm f=f 30:=Eq.trans rfl rfl
theorem nilly_func {n:Nat} {l:List V} {f:Nat→R}:nilly id (.func n l) f=f 41:=Eq.trans rfl rfl
theorem nilly_nilf {f:Nat→R}:nilly id .nilf f=f 40:=Eq.trans rfl rfl
theorem isB_tt {t f:R}:isB (.bool true) true t f=t:=Eq.trans rfl rfl
theorem isB_tf {t f:R}:isB (.bool true) false t f=f:=Eq.trans rfl rfl
theorem isB_ft {t f:R}:isB (.bool false) true t f=f:=Eq.trans rfl rfl
theorem isB_ff {t f:R}:isB (.bool false) false t f=t:=Eq.trans rfl rfl
end
theorem pget_same {s:Slot} {v:V} {e:Env}:pget s (pset s v e)=v:=by rw [pget_pset,if_pos rfl]
theorem pget_ne {s t:Slot} {v:V} {e:Env} (h:s≠t):pget s (pset t v e)=pget s e:=by rw [pget_pset,if_neg h]
theorem pgetA_s {s:Slot} {e:Env}:pgetA (.s s) e=pget s e:=Eq.trans rfl rfl
theorem pgetA_c {v:V} {e:Env}:pgetA (.c v) e=v:=Eq.trans rfl rfl
section
variable {fuel id:Nat} {ph:Phi} {e:Env} {H:Heap} {kn:KE} {kx:Nat→KE} {a b:CodeE} {k:Env→Heap→R} {l:List OpW} {d:Option Slot} {op:OpE} {cls:Nat}
theorem evC_skip:evC .skip fuel ph e H kn kx=kn e H:=Eq.trans rfl rfl
theorem evC_seq:evC (.seq a b) fuel ph e H kn kx=evC a fuel ph e H (fun e H=>evC b fuel ph e H kn kx) kx:=Eq.trans rfl rfl
theorem evC_reg:evC (.reg l) fuel ph e H kn kx=evReg ph l e H kn:=Eq.trans rfl rfl
theorem evC_dreg:evC (.dreg l) fuel ph e H kn kx=evDreg ph l e H kn:=Eq.trans rfl rfl
theorem evC_cond {c:Arg}:evC (.cond c a b) fuel ph e H kn kx=vBool 0 (pgetA c e) fun q=>if q=true then evC a fuel ph e H kn kx else evC b fuel ph e H kn kx:=by
 show getA c e (fun v=>vBool 0 v fun q=>ifB q (evC a fuel ph e H kn kx) (evC b fuel ph e H kn kx))=_
 rw [getA_eq]
 congr 1
 funext q
 exact ifB_if
theorem evC_block:evC (.block id a) fuel ph e H kn kx=evC a fuel ph e H kn fun n e H=>if n=id+1 then kn e H else kx n e H:=by
 show evC a fuel ph e H kn (fun n e H=>ifB (Nat.beq n (Nat.succ id)) (kn e H) (kx n e H))=_
 congr 1
 funext n e H
 rw [ifB_if]
 simp only [nbeq]
theorem evC_exit:evC (.exit id) fuel ph e H kn kx=kx (id+1) e H:=Eq.trans rfl rfl
theorem evC_ret:evC .ret fuel ph e H kn kx=kx 0 e H:=Eq.trans rfl rfl
noncomputable def evL (a:CodeE) (fuel:Nat) (ph:Phi) (kx:Nat→KE) (n:Nat):KE:=Nat.rec (motive:=fun _=>Env→Heap→R) (fun _ _=>no 3) (fun _ ih e H=>evC a fuel ph e H ih kx) n
theorem evC_loop:evC (.loop a) fuel ph e H kn kx=evL a fuel ph kx fuel e H:=Eq.trans rfl rfl
theorem evL_succ {n:Nat}:evL a fuel ph kx (n+1) e H=evC a fuel ph e H (evL a fuel ph kx n) kx:=Eq.trans rfl rfl
theorem psetD_some {s:Slot} {v:V} {e:Env}:psetD (some s) v e=pset s v e:=Eq.trans rfl rfl
theorem psetD_none {v:V} {e:Env}:psetD none v e=e:=Eq.trans rfl rfl
theorem evReg_nil:evReg ph [] e H k=k e H:=Eq.trans rfl rfl
theorem evReg_none:evReg ph (⟨id,d,none,cls,op⟩ :: l) e H k=evOp op id ph e H fun v H'=>evReg ph l (psetD d v e) H' k:=by
 show evOp op id ph e H (fun v H'=>setD d v e fun e'=>evReg ph l e' H' k)=_
 simp only [setD_eq]
theorem evReg_some {s:Slot} {b:Bool}:evReg ph (⟨id,d,some (s,b),cls,op⟩ :: l) e H k=isB (pget s e) b (evOp op id ph e H fun v H'=>evReg ph l (psetD d v e) H' k) (evReg ph l (psetD d (.tup []) e) H k):=by
 show getS s e (fun v=>isB v b (evOp op id ph e H fun v H'=>setD d v e fun e'=>evReg ph l e' H' k) (setD d (.tup []) e fun e'=>evReg ph l e' H k))=_
 simp only [setD_eq,getS_eq]
noncomputable def Heap.mark (H:Heap):Heap := .mk H.n H.n H.t
noncomputable def Heap.unmark (H:Heap) (w:Nat):Heap := .mk H.n w H.t
theorem Heap.n_mark:H.mark.n=H.n:=Eq.trans rfl rfl
theorem Heap.wlo_mark:H.mark.wlo=H.n:=Eq.trans rfl rfl
theorem Heap.get_mark {b:Nat}:H.mark.get b=H.get b:=Eq.trans rfl rfl
theorem Heap.wf_mark:H.mark.wf=H.wf:=Eq.trans rfl rfl
theorem Heap.unmark_mark:H.mark.unmark H.wlo=H:=by cases H;rfl
theorem Heap.unmark_new {x:Blk}:(H.mark.new x).unmark H.wlo=H.new x:=Eq.trans rfl rfl
theorem Heap.unmark_mark2 {w:Nat}:H.mark.unmark w=H.unmark w:=Eq.trans rfl rfl
theorem Heap.unmark_new2 {w:Nat} {x:Blk}:(H.new x).unmark w=(H.unmark w).new x:=Eq.trans rfl rfl
theorem Heap.unmark_self:H.unmark H.wlo=H:=by cases H;rfl
theorem evDreg_nil:evDreg ph [] e H k=k e H:=Eq.trans rfl rfl
theorem evDreg_none:evDreg ph (⟨id,d,none,0,op⟩ :: l) e H k=evOp op id ph e H fun v H'=>evDreg ph l (psetD d v e) H' k:=by
 show evOp op id ph e H (fun v H'=>setD d v e fun e'=>evDreg ph l e' H' k)=_
 simp only [setD_eq]
theorem evDreg_some {s:Slot} {b:Bool}:evDreg ph (⟨id,d,some (s,b),0,op⟩ :: l) e H k=isB (pget s e) b (evOp op id ph e H fun v H'=>evDreg ph l (psetD d v e) H' k) (evDreg ph l (psetD d (.tup []) e) H k):=by
 show getS s e (fun v=>isB v b (evOp op id ph e H fun v H'=>setD d v e fun e'=>evDreg ph l e' H' k) (setD d (.tup []) e fun e'=>evDreg ph l e' H k))=_
 simp only [setD_eq,getS_eq]
theorem evDreg_mild:evDreg ph (⟨id,d,none,1,op⟩ :: l) e H k=evOp op id ph e H.mark fun v H'=>if H.n≤H'.wlo then evDreg ph l (psetD d v e) (H'.unmark H.wlo) k else no 0:=by
 cases H with
 | mk n wlo t=>
  show evOp op id ph e (.mk n n t) (fun v H'=>Heap.rec (motive:=fun _=>R) (fun n' wlo' t'=>ifB (Nat.ble n wlo') (setD d v e fun e'=>evDreg ph l e' (.mk n' wlo t') k) (no 0)) H')=_
  congr 1
  funext v H'
  cases H' with
  | mk n' wlo' t'=>
   show ifB (Nat.ble n wlo') (setD d v e fun e'=>evDreg ph l e' (.mk n' wlo t') k) (no 0)=_
   rw [ifB_if,setD_eq]
   simp only [nble]
   rfl
theorem evDreg_mildG {s:Slot} {b:Bool}:evDreg ph (⟨id,d,some (s,b),1,op⟩ :: l) e H k=isB (pget s e) b (evOp op id ph e H.mark fun v H'=>if H.n≤H'.wlo then evDreg ph l (psetD d v e) (H'.unmark H.wlo) k else no 0) (evDreg ph l (psetD d (.tup []) e) H k):=by
 have h1:=evDreg_mild (id:=id) (ph:=ph) (e:=e) (H:=H) (k:=k) (l:=l) (d:=d) (op:=op)
 have h2:evDreg ph (⟨id,d,some (s,b),1,op⟩ :: l) e H k=getS s e (fun v=>isB v b (evDreg ph (⟨id,d,none,1,op⟩ :: l) e H k) (setD d (.tup []) e fun e'=>evDreg ph l e' H k)):=rfl
 rw [h2,getS_eq,setD_eq,h1]
end
end Go.Ev
end
section
namespace Go.Ev
section
variable {id:Nat}
theorem nth_zero {v:V} {l:List V} {k:V→R}:nth id (v :: l) 0 k=k v:=Eq.trans rfl rfl
theorem nth_succ {v:V} {l:List V} {i:Nat} {k:V→R}:nth id (v :: l) (i+1) k=nth id l i k:=Eq.trans rfl rfl
theorem nth_get:∀ {l:List V} {i:Nat} {v:V} {k:V→R},l[i]? = some v→nth id l i k=k v
 | [],i,v,k,h=>by simp at h
 | x :: l,0,v,k,h=>by simp at h;subst h;rfl
 | x :: l,i+1,v,k,h=>by
  rw [nth_succ]
  exact nth_get (by simpa using h)
theorem dropN_eq:∀ {l:List V} {i:Nat} {k:List V→R},i≤l.length→dropN id l i k=k (l.drop i)
 | [],0,k,_=>rfl
 | [],i+1,k,h=>by simp at h
 | x :: l,0,k,_=>rfl
 | x :: l,i+1,k,h=>by
  show dropN id l i k=_
  rw [dropN_eq (by simpa using h)]
  rfl
theorem takeN_eq:∀ {l:List V} {i:Nat} {k:List V→R},i≤l.length→takeN id l i k=k (l.take i)
 | [],0,k,_=>rfl
 | [],i+1,k,h=>by simp at h
 | x :: l,0,k,_=>rfl
 | x :: l,i+1,k,h=>by
  show takeN id l i (fun r=>k (x :: r))=_
  rw [takeN_eq (by simpa using h)]
  rfl
theorem over_eq:∀ {m l:List V} {k:List V→R},m.length≤l.length→over id m l k=k (m ++ l.drop m.length)
 | [],l,k,_=>rfl
 | x :: m,[],k,h=>by simp at h
 | x :: m,y :: l,k,h=>by
  show over id m l (fun q=>k (x :: q))=_
  rw [over_eq (by simpa using h)]
  rfl
theorem setAt_eq:∀ {m l:List V} {i:Nat} {k:List V→R},i+m.length≤l.length→setAt id m l i k=k (l.take i ++ (m ++ l.drop (i+m.length)))
 | m,[],0,k,h=>by
  show over id m [] k=_
  rw [over_eq (by simpa using h)]
  simp
 | m,[],i+1,k,h=>by simp at h
 | m,y :: l,0,k,h=>by
  show over id m (y :: l) k=_
  rw [over_eq (by simpa using h)]
  simp
 | m,y :: l,i+1,k,h=>by
  show setAt id m l i (fun q=>k (y :: q))=_
  rw [setAt_eq (by simp at h;omega)]
  simp [Nat.add_right_comm]
theorem setAt_one {x:V} {l:List V} {i:Nat} {k:List V→R} (h:i<l.length):setAt id [x] l i k=k (l.set i x):=by
 rw [setAt_eq (by simp only [List.length_cons,List.length_nil];omega),List.set_eq_take_append_cons_drop,if_pos h]
 rfl
theorem allOne_nil {k:R}:allOne id [] k=k:=Eq.trans rfl rfl
theorem allOne_cons {v:V} {l:List V} {k:R}:allOne id (v :: l) k=isOne id v (allOne id l k):=Eq.trans rfl rfl
end
@[congr] theorem nth_congr {id:Nat} {l m:List V} {i j:Nat} {k:V→R} (h:l=m) (h':i=j):nth id l i k=nth id m j k:=by rw [h,h']
@[congr] theorem dropN_congr {id:Nat} {l m:List V} {i j:Nat} {k:List V→R} (h:l=m) (h':i=j):dropN id l i k=dropN id m j k:=by rw [h,h']
@[congr] theorem takeN_congr {id:Nat} {l m:List V} {i j:Nat} {k:List V→R} (h:l=m) (h':i=j):takeN id l i k=takeN id m j k:=by rw [h,h']
@[congr] theorem setAt_congr {id:Nat} {m m' l l':List V} {i j:Nat} {k:List V→R} (h0:m=m') (h:l=l') (h':i=j):setAt id m l i k=setAt id m' l' j k:=by rw [h0,h,h']
@[congr] theorem allOne_congr {id:Nat} {l m:List V} {k:R} (h:l=m):allOne id l k=allOne id m k:=by rw [h]
@[congr] theorem forceN_congr {n m:Nat} {k:Nat→R} (h:n=m):forceN n k=forceN m k:=by rw [h]
noncomputable def rdB (id:Nat) (bl:Blk) (off:Nat) (k:V→R):R:=bRd id bl (fun l=>nth id l off k) (fun len n=>if off<len then k (.int 4 (n >>> (8 * off) &&& 255)) else no 0) fun l=>nth id l off fun v=>isOne id v (k v)
noncomputable def rdNB (id:Nat) (bl:Blk) (off n:Nat) (k:List V→R):R:=bRd id bl (fun l=>dropN id l off fun r=>takeN id r n k) (fun len x=>if off+n≤len then k ((sbytes n (x >>> (8 * off))).map byteV) else no 0) fun l=>dropN id l off fun r=>takeN id r n fun q=>allOne id q (k q)
@[congr] theorem rdB_congr {id:Nat} {x y:Blk} {i j:Nat} {k:V→R} (h:x=y) (h':i=j):rdB id x i k=rdB id y j k:=by rw [h,h']
@[congr] theorem rdNB_congr {id:Nat} {x y:Blk} {i j n m:Nat} {k:List V→R} (h:x=y) (h':i=j) (h2:n=m):rdNB id x i n k=rdNB id y j m k:=by rw [h,h',h2]
@[congr] theorem bOn_congr {id:Nat} {x y:Blk} {kc:List V→R} {kb:Nat→Nat→R} (h:x=y):bOn id x kc kb=bOn id y kc kb:=by rw [h]
@[congr] theorem bMap_congr {id:Nat} {x y:Blk} {k:List (V × V)→R} (h:x=y):bMap id x k=bMap id y k:=by rw [h]
section
variable {id:Nat} {H:Heap}
theorem bOn_cells {l:List V} {kc:List V→R} {kb:Nat→Nat→R}:bOn id (.cells l) kc kb=kc l:=Eq.trans rfl rfl
theorem bOn_bytes {a b:Nat} {kc:List V→R} {kb:Nat→Nat→R}:bOn id (.bytes a b) kc kb=kb a b:=Eq.trans rfl rfl
theorem bMap_map {es:List (V × V)} {k:List (V × V)→R}:bMap id (.map es) k=k es:=Eq.trans rfl rfl
theorem loadC_on {b off:Nat} {k:V→R}:loadC id H b off k=bOn id (H.get b) (fun l=>nth id l off k) fun len n=>if off<len then k (.int 4 (n >>> (8 * off) &&& 255)) else no 0:=by
 unfold loadC
 rw [hGet_eq]
 congr 1
 funext len n
 rw [ifB_if]
 simp only [nblt,forceN_eq]
 rfl
theorem rdC_on {b off:Nat} {k:V→R}:rdC id H b off k=rdB id (H.get b) off k:=by
 unfold rdC rdB
 rw [hGet_eq]
 congr 1
 funext len n
 rw [ifB_if]
 simp only [nblt,forceN_eq]
 rfl
theorem rdN_on {b off n:Nat} {k:List V→R}:rdN id H b off n k=rdNB id (H.get b) off n k:=by
 unfold rdN rdNB
 rw [hGet_eq]
 congr 1
 funext len x
 rw [ifB_if]
 simp only [nble,unpackB_eq]
 rfl
theorem rdB_cells {l:List V} {off:Nat} {k:V→R}:rdB id (.cells l) off k=nth id l off k:=Eq.trans rfl rfl
theorem rdB_bytes {len n off:Nat} {k:V→R}:rdB id (.bytes len n) off k=if off<len then k (.int 4 (n >>> (8 * off) &&& 255)) else no 0:=Eq.trans rfl rfl
theorem rdB_view {l:List V} {off:Nat} {k:V→R}:rdB id (.view l) off k=nth id l off fun v=>isOne id v (k v):=Eq.trans rfl rfl
theorem rdNB_cells {l:List V} {off n:Nat} {k:List V→R}:rdNB id (.cells l) off n k=dropN id l off fun r=>takeN id r n k:=Eq.trans rfl rfl
theorem rdNB_bytes {len x off n:Nat} {k:List V→R}:rdNB id (.bytes len x) off n k=if off+n≤len then k ((sbytes n (x >>> (8 * off))).map byteV) else no 0:=Eq.trans rfl rfl
theorem rdNB_view {l:List V} {off n:Nat} {k:List V→R}:rdNB id (.view l) off n k=dropN id l off fun r=>takeN id r n fun q=>allOne id q (k q):=Eq.trans rfl rfl
theorem loadN_on {b off n:Nat} {k:List V→R}:loadN id H b off n k=bOn id (H.get b) (fun l=>dropN id l off fun r=>takeN id r n k) fun len x=>if off+n≤len then k ((sbytes n (x >>> (8 * off))).map byteV) else no 0:=by
 unfold loadN
 rw [hGet_eq]
 congr 1
 funext len x
 rw [ifB_if]
 simp only [nble,unpackB_eq]
 rfl
theorem storeN_val {b off:Nat} {m:List V} {k:Heap→R}:storeN id H b off m k=bOn id (H.get b) (fun l=>allOne id m (setAt id m l off fun l'=>hSet id H b (.cells l') k))
 fun len x=>packB id m fun ml mx=>ifB (Nat.ble (Nat.add off ml) len)
  (forceN (Nat.add (Nat.mod x (Nat.pow 256 off)) (Nat.shiftLeft (Nat.add mx (Nat.shiftLeft (Nat.shiftRight x (Nat.mul 8 (Nat.add off ml))) (Nat.mul 8 ml))) (Nat.mul 8 off))) fun x'=>hSet id H b (.bytes len x') k) (no 0):=by
 unfold storeN
 rw [hGet_eq]
theorem storeN_on {b off:Nat} {m:List V} {k:Heap→R} {l:List V} (hb:H.get b = .cells l):storeN id H b off m k=allOne id m (setAt id m l off fun l'=>hSet id H b (.cells l') k):=by
 unfold storeN
 rw [hGet_eq,hb]
 rfl
end
noncomputable def callP (ph:Phi) (x:V) (args:List V) (H:Heap) (k:K):R:=ph x args H k
@[congr] theorem callP_congr {ph:Phi} {x y:V} {l m:List V} {H G:Heap} {k:K} (h:x=y) (h':l=m) (h2:H=G):callP ph x l H k=callP ph y m G k:=by rw [h,h',h2]
section
variable {id:Nat} {ph:Phi} {e:Env} {H:Heap} {k:K}
theorem op_mov {x:Arg}:evOp (.mov x) id ph e H k=k (pgetA x e) H:=by
 show getA x e (fun v=>k v H)=_
 rw [getA_eq]
theorem op_pick {c x y:Arg}:evOp (.pick c x y) id ph e H k=vBool id (pgetA c e) fun b=>if b=true then k (pgetA x e) H else k (pgetA y e) H:=by
 show getA c e (fun c=>vBool id c fun b=>ifB b (getA x e fun v=>k v H) (getA y e fun v=>k v H))=_
 simp only [getA_eq,ifB_if]
theorem op_newC {z:List V} (h:H.wf):evOp (.newC z) id ph e H k=k (.ptr H.n 0) (H.new (.cells z)):=hNew_new (k:=fun n H=>k (.ptr n 0) H) h
theorem op_newB {n:Nat} (h:H.wf):evOp (.newB n) id ph e H k=k (.ptr H.n 0) (H.new (.bytes n 0)):=hNew_new (k:=fun n H=>k (.ptr n 0) H) h
theorem op_mkMap (h:H.wf):evOp .mkMap id ph e H k=k (.map H.n) (H.new (.map [])):=hNew_new (k:=fun n H=>k (.map n) H) h
theorem op_box {x:Arg}:evOp (.box x) id ph e H k=vCells id (pgetA x e) fun l=>allOne id l (hNew H (.cells l) fun n H=>k (.ptr n 0) H):=by
 show getA x e (fun v=>vCells id v fun l=>allOne id l (hNew H (.cells l) fun n H=>k (.ptr n 0) H))=_
 rw [getA_eq]
theorem op_load1 {a:Arg}:evOp (.load1 a) id ph e H k=vPtr id (pgetA a e) fun b o=>rdC id H b o fun v=>k v H:=by
 show getA a e (fun a=>vPtr id a fun b o=>rdC id H b o fun v=>k v H)=_
 rw [getA_eq]
theorem op_loadA {n:Nat} {a:Arg}:evOp (.loadA n a) id ph e H k=vPtr id (pgetA a e) fun b o=>rdN id H b o n fun l=>k (.agg l) H:=by
 show getA a e (fun a=>vPtr id a fun b o=>rdN id H b o n fun l=>k (.agg l) H)=_
 rw [getA_eq]
theorem op_store1 {a x:Arg}:evOp (.store1 a x) id ph e H k=vPtr id (pgetA a e) fun b o=>isOne id (pgetA x e) (storeN id H b o [pgetA x e] fun H=>k (.tup []) H):=by
 show getA a e (fun a=>vPtr id a fun b o=>getA x e fun x=>isOne id x (storeN id H b o [x] fun H=>k (.tup []) H))=_
 simp only [getA_eq]
theorem op_storeA {n:Nat} {a x:Arg}:evOp (.storeA n a x) id ph e H k=vPtr id (pgetA a e) fun b o=>vAgg id (pgetA x e) fun l=>if l.length=n then storeN id H b o l fun H=>k (.tup []) H else no 0:=by
 show getA a e (fun a=>vPtr id a fun b o=>getA x e fun x=>vAgg id x fun l=>ifB (Nat.beq (lenL l) n) (storeN id H b o l fun H=>k (.tup []) H) (no 0))=_
 simp only [getA_eq,ifB_if,nbeq,lenL_eq]
noncomputable def vNilc (v:V) (k:K) (H:Heap):R:=eNilc (.c v) 0 (fun _ _ _ _=>0) env0 H k
theorem op_nilc {x:Arg}:evOp (.nilc x) id ph e H k=vNilc (pgetA x e) k H:=by
 show eNilc x id ph e H k=_
 unfold vNilc eNilc
 rw [getA_eq,getA_eq]
 rfl
@[congr] theorem vNilc_congr {x y:V} (h:x=y):vNilc x k H=vNilc y k H:=by rw [h]
theorem vNilc_ptr {b o:Nat}:vNilc (.ptr b o) k H=k (.ptr b o) H:=Eq.trans rfl rfl
theorem op_bin {kd ky:Nat} {f:BF} {x y:Arg}:evOp (.bin kd ky f x y) id ph e H k=vInt id (pgetA x e) fun k1 a=>vInt id (pgetA y e) fun k2 b=>if k1=kd then (if k2=ky then evBF id f a b fun r=>k (.int kd r) H else no 0) else no 0:=by
 show getA x e (fun x=>vInt id x fun k1 a=>getA y e fun y=>vInt id y fun k2 b=>ifB (Nat.beq k1 kd) (ifB (Nat.beq k2 ky) (evBF id f a b fun r=>k (.int kd r) H) (no 0)) (no 0))=_
 simp only [getA_eq,ifB_if,nbeq]
theorem op_cmp {kd:Nat} {f:CF} {x y:Arg}:evOp (.cmp kd f x y) id ph e H k=vInt id (pgetA x e) fun k1 a=>vInt id (pgetA y e) fun k2 b=>if k1=kd then (if k2=kd then (if evCF f a b=true then k (.bool true) H else k (.bool false) H) else no 0) else no 0:=by
 show getA x e (fun x=>vInt id x fun k1 a=>getA y e fun y=>vInt id y fun k2 b=>ifB (Nat.beq k1 kd) (ifB (Nat.beq k2 kd) (ifB (evCF f a b) (k (.bool true) H) (k (.bool false) H)) (no 0)) (no 0))=_
 simp only [getA_eq,ifB_if,nbeq]
theorem op_eqv {kc:Nat} {neg:Bool} {x y:Arg}:evOp (.eqv kc neg x y) id ph e H k=nilly id (pgetA x e) fun a=>nilly id (pgetA y e) fun b=>if a / 10=kc then (if b / 10=kc then (if a=b then (if a % 10=1 then no 0 else k (.bool (!neg)) H) else k (.bool neg) H) else no 0) else no 0:=by
 show getA x e (fun x=>nilly id x fun a=>getA y e fun y=>nilly id y fun b=>ifB (Nat.beq (Nat.div a 10) kc) (ifB (Nat.beq (Nat.div b 10) kc) (ifB (Nat.beq a b) (ifB (Nat.beq (Nat.mod a 10) 1) (no 0) (ifB neg (k (.bool false) H) (k (.bool true) H))) (k (.bool neg) H)) (no 0)) (no 0))=_
 have hn:ifB neg (k (.bool false) H) (k (.bool true) H)=k (.bool (!neg)) H:=by cases neg <;> rfl
 simp only [getA_eq,ifB_if (c:=Nat.beq _ _),nbeq,hn]
 rfl
theorem op_lnot {x:Arg}:evOp (.lnot x) id ph e H k=vBool id (pgetA x e) fun b=>k (.bool (!b)) H:=by
 show getA x e (fun x=>vBool id x fun b=>ifB b (k (.bool false) H) (k (.bool true) H))=_
 rw [getA_eq]
 congr 1
 funext b
 cases b <;> rfl
theorem op_fadd {off:Nat} {x:Arg}:evOp (.fadd off x) id ph e H k=vPtr id (pgetA x e) fun b o=>k (.ptr b (o+off)) H:=by
 show getA x e (fun x=>vPtr id x fun b o=>forceN (Nat.add o off) fun o'=>k (.ptr b o') H)=_
 simp only [getA_eq,forceN_eq]
 rfl
theorem op_fld1 {off:Nat} {x:Arg}:evOp (.fld1 off x) id ph e H k=vAgg id (pgetA x e) fun l=>nth id l off fun v=>k v H:=by
 show getA x e (fun x=>vAgg id x fun l=>nth id l off fun v=>k v H)=_
 rw [getA_eq]
theorem op_fldA {off n:Nat} {x:Arg}:evOp (.fldA off n x) id ph e H k=vAgg id (pgetA x e) fun l=>dropN id l off fun r=>takeN id r n fun q=>k (.agg q) H:=by
 show getA x e (fun x=>vAgg id x fun l=>dropN id l off fun r=>takeN id r n fun q=>k (.agg q) H)=_
 rw [getA_eq]
theorem op_extr {x:Arg} {i:Nat}:evOp (.extr x i) id ph e H k=vTup id (pgetA x e) fun l=>nth id l i fun v=>k v H:=by
 show getA x e (fun x=>vTup id x fun l=>nth id l i fun v=>k v H)=_
 rw [getA_eq]
theorem op_tas {t:Nat} {x:Arg}:evOp (.tas t x) id ph e H k=vIf id t (pgetA x e) fun v=>k (.tup [v, .bool true]) H:=by
 show getA x e (fun x=>vIf id t x fun v=>k (.tup [v, .bool true]) H)=_
 rw [getA_eq]
theorem op_mkI {t:Nat} {x:Arg}:evOp (.mkI t x) id ph e H k=k (.iface t (pgetA x e)) H:=by
 show getA x e (fun v=>k (.iface t v) H)=_
 rw [getA_eq]
theorem op_mkF {f:Nat} {caps:List Arg}:evOp (.mkF f caps) id ph e H k=k (.func f (caps.map (pgetA · e))) H:=by
 show getAs caps e (fun l=>k (.func f l) H)=_
 rw [getAs_eq]
theorem op_call {f:Nat} {args:List Arg}:evOp (.call f args) id ph e H k=callP ph (.func f []) (args.map (pgetA · e)) H k:=by
 show getAs args e (fun l=>ph (.func f []) l H k)=_
 rw [getAs_eq]
 rfl
theorem op_callV {x:Arg} {args:List Arg}:evOp (.callV x args) id ph e H k=callP ph (pgetA x e) (args.map (pgetA · e)) H k:=by
 show getA x e (fun x=>getAs args e fun l=>ph x l H k)=_
 rw [getA_eq,getAs_eq]
 rfl
theorem lenR_eq {n:Nat}:lenR id n H k=if n<9223372036854775808 then k (.int 3 n) H else no 0:=by
 unfold lenR
 rw [ifB_if]
 simp only [nblt]
theorem op_lenS {x:Arg}:evOp (.lenS x) id ph e H k=vStr id (pgetA x e) fun n _=>lenR id n H k:=by
 show getA x e (fun x=>vStr id x fun n _=>lenR id n H k)=_
 rw [getA_eq]
theorem op_lenL {x:Arg}:evOp (.lenL x) id ph e H k=vSliceN id (pgetA x e) (fun _ _ n _ _=>lenR id n H k) (lenR id 0 H k):=by
 show getA x e (fun x=>vSliceN id x (fun _ _ n _ _=>lenR id n H k) (lenR id 0 H k))=_
 rw [getA_eq]
theorem op_lenM {x:Arg}:evOp (.lenM x) id ph e H k=vMapN id (pgetA x e) (fun b=>bMap id (H.get b) fun es=>lenR id es.length H k) (lenR id 0 H k):=by
 show getA x e (fun x=>vMapN id x (fun b=>hGet H b fun bl=>bMap id bl fun es=>forceN (lenM es) fun n=>lenR id n H k) (lenR id 0 H k))=_
 simp only [getA_eq,hGet_eq,forceN_eq,lenM_eq]
theorem op_mm {kd o m:Nat} {mx:Bool} {x y:Arg}:evOp (.mm kd o m mx x y) id ph e H k=vInt id (pgetA x e) fun k1 a=>vInt id (pgetA y e) fun k2 b=>if k1=kd then (if k2=kd then k (.int kd (mmN mx o m a b)) H else no 0) else no 0:=by
 show getA x e (fun x=>vInt id x fun k1 a=>getA y e fun y=>vInt id y fun k2 b=>ifB (Nat.beq k1 kd) (ifB (Nat.beq k2 kd) (pick2 o m mx a b fun r=>k (.int kd r) H) (no 0)) (no 0))=_
 simp only [getA_eq,ifB_if,nbeq,pick2_eq]
end
section
variable {cp:RC→CodeE} {t:Nat→Option FnE} {fuel d:Nat} {H:Heap} {k:K} {args caps:List V} {f F:Nat} {ps:List Slot} {res:List RV} {c:CodeE}
noncomputable def retF (res:List RV) (k:K) (e:Env) (H:Heap):R:=getRs res e H fun l=>retV l fun v=>k v H
theorem call_entry (ht:t F=some (.code ps res c)) (hf:f % 2=0) (hF:f / 2=F):callP (evP cp t fuel (d+1)) (.func f caps) args H k=setPs ps (args ++ caps) env0 fun e=>evC c fuel (evP cp t fuel d) e H (retF res k) fun n e H=>if n=0 then retF res k e H else no 6:=by
 show Nat.rec (motive:=fun _=>R) (appL args caps fun args=>evT t fuel (evP cp t fuel d) (Nat.div f 2) args H k) (fun _ _=>appL caps args fun args=>evT t fuel (evP cp t fuel d) (Nat.div f 2) args H k) (Nat.mod f 2)=_
 have h1:Nat.mod f 2=0:=hf
 have h2:Nat.div f 2=F:=hF
 rw [h1,h2]
 show appL args caps (fun args=>evT t fuel (evP cp t fuel d) F args H k)=_
 rw [appL_eq]
 show forceN F (fun f=>Option.rec (motive:=fun _=>R) (no (100+f)) (fun fn=>evFn fn fuel (evP cp t fuel d) (args ++ caps) H k) (t f))=_
 rw [forceN_eq,ht]
 show setPs ps (args ++ caps) env0 (fun e=>evC c fuel (evP cp t fuel d) e H (retF res k) fun n e H=>Nat.rec (motive:=fun _=>R) (retF res k e H) (fun _ _=>no 6) n)=_
 congr 1
 funext e
 congr 1
 funext n e H
 cases n <;> rfl
theorem call_entry1 (ht:t F=some (.code ps res c)) (hf:f % 2=1) (hF:f / 2=F):callP (evP cp t fuel (d+1)) (.func f caps) args H k=setPs ps (caps ++ args) env0 fun e=>evC c fuel (evP cp t fuel d) e H (retF res k) fun n e H=>if n=0 then retF res k e H else no 6:=by
 show Nat.rec (motive:=fun _=>R) (appL args caps fun args=>evT t fuel (evP cp t fuel d) (Nat.div f 2) args H k) (fun _ _=>appL caps args fun args=>evT t fuel (evP cp t fuel d) (Nat.div f 2) args H k) (Nat.mod f 2)=_
 have h1:Nat.mod f 2=1:=hf
 have h2:Nat.div f 2=F:=hF
 rw [h1,h2]
 show appL caps args (fun args=>evT t fuel (evP cp t fuel d) F args H k)=_
 rw [appL_eq]
 show forceN F (fun f=>Option.rec (motive:=fun _=>R) (no (100+f)) (fun fn=>evFn fn fuel (evP cp t fuel d) (caps ++ args) H k) (t f))=_
 rw [forceN_eq,ht]
 show setPs ps (caps ++ args) env0 (fun e=>evC c fuel (evP cp t fuel d) e H (retF res k) fun n e H=>Nat.rec (motive:=fun _=>R) (retF res k e H) (fun _ _=>no 6) n)=_
 congr 1
 funext e
 congr 1
 funext n e H
 cases n <;> rfl
@[congr] theorem setPs_congr {l m:List V} {e:Env} {k:Env→R} (h:l=m):setPs ps l e k=setPs ps m e k:=by rw [h]
@[congr] theorem hNew_congr {x y:Blk} {k:Nat→Heap→R} (h:x=y):hNew H x k=hNew H y k:=by rw [h]
@[congr] theorem hSet_congr {id b c:Nat} {x y:Blk} {k:Heap→R} (h':b=c) (h:x=y):hSet id H b x k=hSet id H c y k:=by rw [h,h']
@[congr] theorem packB_congr {id:Nat} {l m:List V} {k:Nat→Nat→R} (h:l=m):packB id l k=packB id m k:=by rw [h]
theorem setPs_nil {e:Env} {k:Env→R}:setPs [] [] e k=k e:=Eq.trans rfl rfl
theorem setPs_cons {s:Slot} {v:V} {ps:List Slot} {l:List V} {e:Env} {k:Env→R}:setPs (s :: ps) (v :: l) e k=setPs ps l (pset s v e) k:=by
 show setS s v e (fun e'=>setPs ps l e' k)=_
 rw [setS_eq]
theorem retF_nil {e:Env}:retF [] k e H=k (.tup []) H:=Eq.trans rfl rfl
theorem retF_one {s:Slot} {e:Env}:retF [.tmp s] k e H=k (pget s e) H:=by
 show getS s e (fun v=>k v H)=_
 rw [getS_eq]
theorem retF_two {s s':Slot} {e:Env}:retF [.tmp s, .tmp s'] k e H=k (.tup [pget s e,pget s' e]) H:=by
 show getS s e (fun v=>getS s' e fun v'=>k (.tup [v,v']) H)=_
 rw [getS_eq,getS_eq]
theorem retF_three {s s' s2:Slot} {e:Env}:retF [.tmp s, .tmp s', .tmp s2] k e H=k (.tup [pget s e,pget s' e,pget s2 e]) H:=by
 show getS s e (fun v=>getS s' e fun v'=>getS s2 e fun v2=>k (.tup [v,v',v2]) H)=_
 rw [getS_eq,getS_eq,getS_eq]
end
end Go.Ev
end
section
namespace Go.Ev
section
variable {id:Nat} {ph:Phi} {e:Env} {H:Heap} {k:K}
theorem idx_eq {i:Arg} {len:Nat} {f:Nat→R}:idx id i e len f=vInt id (pgetA i e) fun kd n=>if 3≤kd then (if n<len then (if n<9223372036854775808 then f n else no 0) else no 0) else no 0:=by
 show getA i e (fun v=>vInt id v fun kd n=>ifB (Nat.ble 3 kd) (ifB (Nat.blt n len) (ifB (Nat.blt n 9223372036854775808) (f n) (no 0)) (no 0)) (no 0))=_
 simp only [getA_eq,ifB_if,nble,nblt]
theorem op_ixV {size:Nat} {x i:Arg}:evOp (.ixV size x i) id ph e H k=vSlice id (pgetA x e) fun b o len _ _=>idx id i e len fun n=>k (.ptr b (o+n * size)) H:=by
 show getA x e (fun x=>vSlice id x fun b o len _ _=>idx id i e len fun n=>forceN (Nat.add o (Nat.mul n size)) fun o'=>k (.ptr b o') H)=_
 simp only [getA_eq,forceN_eq]
 rfl
theorem op_ixA {len size:Nat} {x i:Arg}:evOp (.ixA len size x i) id ph e H k=vPtr id (pgetA x e) fun b o=>idx id i e len fun n=>k (.ptr b (o+n * size)) H:=by
 show getA x e (fun x=>vPtr id x fun b o=>idx id i e len fun n=>forceN (Nat.add o (Nat.mul n size)) fun o'=>k (.ptr b o') H)=_
 simp only [getA_eq,forceN_eq]
 rfl
theorem op_conv0 {src dst c:Nat} {x:Arg}:evOp (.convI src dst 0 c x) id ph e H k=vInt id (pgetA x e) fun k1 a=>if k1=src then k (.int dst (a % c)) H else no 0:=by
 show getA x e (fun x=>vInt id x fun k1 a=>ifB (Nat.beq k1 src) (forceN (Nat.mod a c) fun r=>k (.int dst r) H) (no 0))=_
 simp only [getA_eq,ifB_if,nbeq,forceN_eq]
 rfl
theorem fillL_nil {z:List V} {f:List V→R}:fillL id e [] z f=f z:=Eq.trans rfl rfl
theorem fillL_cons {off size:Nat} {a:Arg} {ps:List (Nat × Nat × Arg)} {z:List V} {f:List V→R}:fillL id e ((off,size,a) :: ps) z f=vCells id (pgetA a e) fun l=>if l.length=size then setAt id l z off fun z'=>fillL id e ps z' f else no 0:=by
 show getA a e (fun v=>vCells id v fun l=>ifB (Nat.beq (lenL l) size) (setAt id l z off fun z'=>fillL id e ps z' f) (no 0))=_
 simp only [getA_eq,ifB_if,nbeq,lenL_eq]
theorem op_build {z:List V} {ps:List (Nat × Nat × Arg)}:evOp (.build z ps) id ph e H k=fillL id e ps z fun l=>k (.agg l) H:=Eq.trans rfl rfl
theorem op_bslice {len:Nat} {z:List V} {ps:List (Nat × Nat × Arg)}:evOp (.bslice false len z ps) id ph e H k=fillL id e ps z fun l=>allOne id l (hNew H (.cells l) fun b H=>k (.slice b 0 len (len+1) 0) H):=Eq.trans rfl rfl
theorem op_bsliceB {len:Nat} {z:List V} {ps:List (Nat × Nat × Arg)}:evOp (.bslice true len z ps) id ph e H k=fillL id e ps z fun l=>packB id l fun ln n=>hNew H (.bytes ln n) fun b H=>k (.slice b 0 len (len+1) 0) H:=Eq.trans rfl rfl
theorem op_scmp {neg:Bool} {x y:Arg}:evOp (.scmp neg x y) id ph e H k=vStr id (pgetA x e) fun l1 n1=>vStr id (pgetA y e) fun l2 n2=>if l1=l2∧n1=n2 then k (.bool (!neg)) H else k (.bool neg) H:=by
 show getA x e (fun x=>vStr id x fun l1 n1=>getA y e fun y=>vStr id y fun l2 n2=>ifB (Nat.beq l1 l2) (ifB (Nat.beq n1 n2) (ifB neg (k (.bool false) H) (k (.bool true) H)) (k (.bool neg) H)) (k (.bool neg) H))=_
 have hn:ifB neg (k (.bool false) H) (k (.bool true) H)=k (.bool (!neg)) H:=by cases neg <;> rfl
 simp only [getA_eq,ifB_if (c:=Nat.beq _ _),nbeq,hn]
 congr 1
 funext l1 n1
 congr 1
 funext l2 n2
 by_cases h1:l1=l2 <;> by_cases h2:n1=n2 <;> simp [h1,h2]
theorem op_sadd {x y:Arg}:evOp (.sadd x y) id ph e H k=vStr id (pgetA x e) fun l1 n1=>vStr id (pgetA y e) fun l2 n2=>if l1+l2<9223372036854775808 then k (.str (l1+l2) (n1+n2 * 256 ^ l1)) H else no 0:=by
 show getA x e (fun x=>vStr id x fun l1 n1=>getA y e fun y=>vStr id y fun l2 n2=>forceN (Nat.add l1 l2) fun l=>ifB (Nat.blt l 9223372036854775808) (forceN (Nat.add n1 (Nat.shiftLeft n2 (Nat.mul 8 l1))) fun n=>k (.str l n) H) (no 0))=_
 simp only [getA_eq,forceN_eq,ifB_if,nblt,shl8]
 rfl
theorem newCells_slice {size b o l c s:Nat} {f:Nat→List V→R}:newCells id size H (.slice b o l c s) f=if l=0 then f 0 [] else rdN id H b o (l * size) fun m=>f l m:=by cases l <;> rfl
theorem newCells_nils {size:Nat} {f:Nat→List V→R}:newCells id size H .nils f=f 0 []:=Eq.trans rfl rfl
@[congr] theorem newCells_congr {size:Nat} {x y:V} {f:Nat→List V→R} (h:x=y):newCells id size H x f=newCells id size H y f:=by rw [h]
theorem rec0 {a b:R} {n:Nat}:Nat.rec (motive:=fun _=>R) a (fun _ _=>b) n=if n=0 then a else b:=by cases n <;> rfl
theorem op_app {size:Nat} {s x:Arg}:evOp (.app false size s x) id ph e H k=newCells id size H (pgetA x e) fun n new=>vSliceN id (pgetA s e) (fun b o len cp sz=>if n=0 then k (pgetA s e) H else appC id size n new b o len cp sz H k)
  (if n=0 then k (pgetA s e) H else allOne id new (if n≤1073741824 then hNew H (.cells new) fun b' H=>k (.slice b' 0 n 0 size) H else no 0)):=by
 show getA s e (fun s=>getA x e fun x=>newCells id size H x fun n new=>
  vSliceN id s (fun b o len cp sz=>Nat.rec (motive:=fun _=>R) (k s H) (fun _ _=>appC id size n new b o len cp sz H k) n)
  (Nat.rec (motive:=fun _=>R) (k s H) (fun _ _=>allOne id new (ifB (Nat.ble n 1073741824) (hNew H (.cells new) fun b' H=>k (.slice b' 0 n 0 size) H) (no 0))) n))=_
 simp only [getA_eq,rec0,ifB_if,nble]
theorem appC_move {size n b len:Nat} {new:List V}:appC id size n new b 0 len 0 size H k=allOne id new (if len+n≤1073741824 then bOn id (H.get b) (fun l=>if l.length=len * size then hSet id H b .dead fun H=>hNew H (.cells (l ++ new)) fun b' H=>k (.slice b' 0 (len+n) 0 size) H else no 0) (fun _ _=>no 0) else no 0):=by
 show allOne id new (forceN (Nat.add len n) fun need=>ifB (Nat.ble need 1073741824)
   (ifB (Nat.beq size size) (ifB (Nat.beq 0 0) (hGet H b fun bl=>bOn id bl (fun l=>ifB (Nat.beq (lenL l) (Nat.mul len size)) (appL l new fun l'=>hSet id H b .dead fun H=>hNew H (.cells l') fun b' H=>k (.slice b' 0 need 0 size) H) (no 0)) (fun _ _=>no 0)) (no 0)) (no 0)) (no 0))=_
 simp only [forceN_eq,ifB_if,nble,nbeq,if_true,hGet_eq,lenL_eq,appL_eq]
 rfl
theorem appC_grow {size n b o len q sz:Nat} {new:List V} (h:q<len+n):appC id size n new b o len (q+1) sz H k=allOne id new (if len+n≤1073741824 then loadN id H b o (len * size) fun l=>allOne id l (hNew H (.cells (l ++ new)) fun b' H=>k (.slice b' 0 (len+n) 0 size) H) else no 0):=by
 show allOne id new (forceN (Nat.add len n) fun need=>ifB (Nat.ble need 1073741824)
   (ifB (Nat.ble need q) (storeN id H b (Nat.add o (Nat.mul len size)) new fun H=>k (.slice b o need (q+1) sz) H) (loadN id H b o (Nat.mul len size) fun l=>allOne id l (appL l new fun l'=>hNew H (.cells l') fun b' H=>k (.slice b' 0 need 0 size) H))) (no 0))=_
 have hn:¬ Nat.add len n≤q:=by show ¬ len+n≤q;omega
 simp only [forceN_eq,ifB_if,nble,appL_eq,if_neg hn]
 rfl
@[congr] theorem appC_congr {size n n' b o len cp sz:Nat} {new new':List V} (h:n=n') (h':new=new'):appC id size n new b o len cp sz H k=appC id size n' new' b o len cp sz H k:=by rw [h,h']
theorem bf_add {m a b:Nat} {f:Nat→R}:evBF id (.add m) a b f=f ((a+b) % m):=forceN_eq _ _
theorem bf_sub {m a b:Nat} {f:Nat→R}:evBF id (.sub m) a b f=f ((a+(m-b)) % m):=forceN_eq _ _
theorem bf_mul {m a b:Nat} {f:Nat→R}:evBF id (.mul m) a b f=f (a * b % m):=forceN_eq _ _
theorem cf_eq {a b:Nat}:(evCF .eq a b=true)=(a=b):=nbeq
theorem cf_ne {a b:Nat}:(evCF .ne a b=true) = ¬ (a=b):=by
 show (Bool.rec true false (Nat.beq a b)=true)=_
 rw [← nbeq]
 cases Nat.beq a b <;> simp
theorem cf_lt {o m a b:Nat}:(evCF (.lt o m) a b=true)=((a+o) % m < (b+o) % m):=nblt
theorem cf_le {o m a b:Nat}:(evCF (.le o m) a b=true)=((a+o) % m≤(b+o) % m):=nble
theorem cf_gt {o m a b:Nat}:(evCF (.gt o m) a b=true)=((b+o) % m < (a+o) % m):=nblt
theorem cf_ge {o m a b:Nat}:(evCF (.ge o m) a b=true)=((b+o) % m≤(a+o) % m):=nble
def nn (a:Nat):Prop:=a<9223372036854775808
theorem off_nn {a:Nat} (h:nn a):(a+9223372036854775808) % 18446744073709551616=a+9223372036854775808:=by unfold nn at h;omega
theorem lt_nn {a b:Nat} (ha:nn a) (hb:nn b):(evCF (.lt 9223372036854775808 18446744073709551616) a b=true)=(a<b):=by
 rw [cf_lt,off_nn ha,off_nn hb]
 apply propext
 omega
theorem le_nn {a b:Nat} (ha:nn a) (hb:nn b):(evCF (.le 9223372036854775808 18446744073709551616) a b=true)=(a≤b):=by
 rw [cf_le,off_nn ha,off_nn hb]
 apply propext
 omega
theorem gt_nn {a b:Nat} (ha:nn a) (hb:nn b):(evCF (.gt 9223372036854775808 18446744073709551616) a b=true)=(b<a):=by
 rw [cf_gt,off_nn ha,off_nn hb]
 apply propext
 omega
theorem ge_nn {a b:Nat} (ha:nn a) (hb:nn b):(evCF (.ge 9223372036854775808 18446744073709551616) a b=true)=(b≤a):=by
 rw [cf_ge,off_nn ha,off_nn hb]
 apply propext
 omega
theorem sub_nn {a b:Nat} (h:b≤a) (ha:nn a):(a+(18446744073709551616-b)) % 18446744073709551616=a-b:=by unfold nn at ha;omega
theorem add_nn {a b:Nat} (h:nn (a+b)):(a+b) % 18446744073709551616=a+b:=by unfold nn at h;omega
theorem max_nn {a b:Nat} (ha:nn a) (hb:nn b):mmN true 9223372036854775808 18446744073709551616 a b=max a b:=by
 unfold mmN
 rw [if_pos rfl,off_nn ha,off_nn hb]
 split <;> omega
theorem min_nn {a b:Nat} (ha:nn a) (hb:nn b):mmN false 9223372036854775808 18446744073709551616 a b=min a b:=by
 unfold mmN
 rw [if_neg (by decide),off_nn ha,off_nn hb]
 split <;> omega
theorem nn_lit {a:Nat} (h:a<9223372036854775808):nn a:=h
@[congr] theorem evBF_congr {g:BF} {a a' b b':Nat} {f:Nat→R} (h:a=a') (h':b=b'):evBF id g a b f=evBF id g a' b' f:=by rw [h,h']
theorem bnd_none {d:Nat} {f:Nat→R}:bnd id none e d f=f d:=Eq.trans rfl rfl
theorem bnd_some {a:Arg} {d:Nat} {f:Nat→R}:bnd id (some a) e d f=vInt id (pgetA a e) fun kd n=>if 3≤kd then (if n<9223372036854775808 then f n else no 0) else no 0:=by
 show getA a e (fun v=>vInt id v fun kd n=>ifB (Nat.ble 3 kd) (ifB (Nat.blt n 9223372036854775808) (f n) (no 0)) (no 0))=_
 simp only [getA_eq,ifB_if,nble,nblt]
def encE (p:Nat × V):V × V:=(.int 3 p.1,p.2)
def encM (D:List (Nat × V)):List (V × V):=D.map encE
def lkp (D:List (Nat × V)) (a:Nat):Option V:=(D.find? fun p=>p.1 == a).map (·.2)
def upd:List (Nat × V)→Nat→V→List (Nat × V)
 | [],a,v => [(a,v)]
 | p :: D,a,v=>if p.1=a then (p.1,v) :: D else p :: upd D a v
def optOn (o:Option V) (f:V→R) (z:R):R:=match o with
 | some v=>f v
 | none=>z
@[congr] theorem optOn_congr {o o':Option V} {f:V→R} {z:R} (h:o=o'):optOn o f z=optOn o' f z:=by rw [h]
theorem optOn_some {v:V} {f:V→R} {z:R}:optOn (some v) f z=f v:=Eq.trans rfl rfl
theorem optOn_none {f:V→R} {z:R}:optOn none f z=z:=Eq.trans rfl rfl
theorem keyEq_int {a b:Nat} {f:Bool→R}:keyEq id false (.int 3 a) (.int 3 b) f=f (Nat.beq a b):=Eq.trans rfl rfl
theorem lookL_enc:∀ {D:List (Nat × V)} {a:Nat} {f:V→R} {z:R},lookL id false (encM D) (.int 3 a) f z=optOn (lkp D a) f z
 | [],a,f,z=>rfl
 | (b,v) :: D,a,f,z=>by
  show ifB (Nat.beq a b) (f v) (lookL id false (encM D) (.int 3 a) f z)=_
  rw [ifB_if,lookL_enc]
  simp only [nbeq]
  by_cases h:a=b
  ·subst h
   simp [lkp,optOn]
  ·have hb:(b == a)=false:=by simp;omega
   simp [lkp,h,List.find?_cons,hb]
theorem setL_enc:∀ {D:List (Nat × V)} {a:Nat} {y:V} {f:List (V × V)→R},setL id false (encM D) (.int 3 a) y f=f (encM (upd D a y))
 | [],a,y,f=>rfl
 | (b,v) :: D,a,y,f=>by
  show ifB (Nat.beq a b) (f ((.int 3 b,y) :: encM D)) (setL id false (encM D) (.int 3 a) y fun r=>f ((.int 3 b,v) :: r))=_
  rw [ifB_if,setL_enc]
  simp only [nbeq]
  by_cases h:a=b
  ·subst h
   simp [upd,encM,encE]
  ·have hb:¬ b=a:=fun h'=>h h'.symm
   simp [upd,encM,encE,h,hb]
theorem op_look {zero:V} {ok:Bool} {m x:Arg} {ks:Bool}:evOp (.look ks zero ok m x) id ph e H k=vMapN id (pgetA m e) (fun b=>bMap id (H.get b) fun es=>lookL id ks es (pgetA x e) (fun v=>if ok=true then k (.tup [v, .bool true]) H else k v H) (if ok=true then k (.tup [zero, .bool false]) H else k zero H)) (if ok=true then k (.tup [zero, .bool false]) H else k zero H):=by
 show getA m e (fun m=>getA x e fun x=>vMapN id m (fun b=>hGet H b fun bl=>bMap id bl fun es=>lookL id ks es x (fun v=>ifB ok (k (.tup [v, .bool true]) H) (k v H)) (ifB ok (k (.tup [zero, .bool false]) H) (k zero H))) (ifB ok (k (.tup [zero, .bool false]) H) (k zero H)))=_
 simp only [getA_eq,hGet_eq,ifB_if]
theorem op_mset {ks:Bool} {m x y:Arg}:evOp (.mset ks m x y) id ph e H k=vMap id (pgetA m e) fun b=>bMap id (H.get b) fun es=>isKey id (pgetA x e) (setL id ks es (pgetA x e) (pgetA y e) fun es'=>hSet id H b (.map es') fun H=>k (.tup []) H):=by
 show getA m e (fun m=>getA x e fun x=>getA y e fun y=>vMap id m fun b=>hGet H b fun bl=>bMap id bl fun es=>isKey id x (setL id ks es x y fun es'=>hSet id H b (.map es') fun H=>k (.tup []) H))=_
 simp only [getA_eq,hGet_eq]
@[congr] theorem lookL_congr {ks:Bool} {es es':List (V × V)} {x x':V} {f:V→R} {z:R} (h:es=es') (h':x=x'):lookL id ks es x f z=lookL id ks es' x' f z:=by rw [h,h']
@[congr] theorem setL_congr {ks:Bool} {es es':List (V × V)} {x x' y y':V} {f:List (V × V)→R} (h:es=es') (h':x=x') (h2:y=y'):setL id ks es x y f=setL id ks es' x' y' f:=by rw [h,h',h2]
end
end Go.Ev
end
section
namespace Go.Ev
section
variable {id:Nat} {ph:Phi} {e:Env} {H:Heap} {k:K}
theorem packB_nil {f:Nat→Nat→R}:packB id [] f=f 0 0:=Eq.trans rfl rfl
theorem packB_cons {x:Nat} {l:List V} {f:Nat→Nat→R}:packB id (.int 4 x :: l) f=packB id l fun len n=>f (len+1) (x+256 * n):=by
 show ifB (Nat.beq 4 4) (packB id l fun len n=>forceN (Nat.add x (Nat.mul 256 n)) fun n'=>forceN (Nat.succ len) fun len'=>f len' n') (no 0)=_
 simp only [forceN_eq]
 rfl
theorem loadB_on {b off n:Nat} {f:Nat→R}:loadB id H b off n f=bOn id (H.get b) (fun l=>dropN id l off fun r=>takeN id r n fun q=>packB id q fun _ x=>f x) fun len x=>if off+n≤len then f ((x >>> (8 * off)) % 256 ^ n) else no 0:=by
 unfold loadB
 rw [hGet_eq]
 congr 1
 funext len x
 rw [ifB_if]
 simp only [nble,forceN_eq]
 rfl
theorem op_mkSliceB {z:List V} {l c:Arg}:evOp (.mkSlice true z l c) id ph e H k=vInt id (pgetA l e) fun kl l=>vInt id (pgetA c e) fun kc c=>if 3≤kl then (if 3≤kc then (if l≤c then (if c≤16777216 then hNew H (.bytes c 0) fun b H=>k (.slice b 0 l (c+1) 0) H else no 0) else no 0) else no 0) else no 0:=by
 show getA l e (fun l=>vInt id l fun kl l=>getA c e fun c=>vInt id c fun kc c=>ifB (Nat.ble 3 kl) (ifB (Nat.ble 3 kc) (ifB (Nat.ble l c) (ifB (Nat.ble c 16777216)
  (hNew H (.bytes c 0) fun b H=>forceN (Nat.succ c) fun c1=>k (.slice b 0 l c1 0) H) (no 0)) (no 0)) (no 0)) (no 0))=_
 simp only [getA_eq,ifB_if,nble,forceN_eq]
theorem op_convB2S {x:Arg}:evOp (.convB2S x) id ph e H k=vSliceN id (pgetA x e) (fun b o l _ _=>loadB id H b o l fun n=>k (.str l n) H) (k (.str 0 0) H):=by
 show getA x e (fun x=>vSliceN id x (fun b o l _ _=>loadB id H b o l fun n=>k (.str l n) H) (k (.str 0 0) H))=_
 rw [getA_eq]
theorem op_convS2B {x:Arg}:evOp (.convS2B x) id ph e H k=vStr id (pgetA x e) fun l n=>if l≤16777216 then hNew H (.bytes l n) fun b H=>k (.slice b 0 l 0 1) H else no 0:=by
 show getA x e (fun x=>vStr id x fun l n=>ifB (Nat.ble l 16777216) (hNew H (.bytes l n) fun b H=>k (.slice b 0 l 0 1) H) (no 0))=_
 simp only [getA_eq,ifB_if,nble]
theorem op_ixS {x i:Arg}:evOp (.ixS x i) id ph e H k=vStr id (pgetA x e) fun len m=>idx id i e len fun n=>k (.int 4 (m >>> (8 * n) &&& 255)) H:=by
 show getA x e (fun x=>vStr id x fun len m=>idx id i e len fun n=>forceN (Nat.land (Nat.shiftRight m (Nat.mul 8 n)) 255) fun r=>k (.int 4 r) H)=_
 simp only [getA_eq,forceN_eq]
 rfl
theorem op_slS {x:Arg} {lo hi:Option Arg}:evOp (.slS x lo hi) id ph e H k=vStr id (pgetA x e) fun len n=>bnd id hi e len fun h=>bnd id lo e 0 fun l=>if l≤h then (if h≤len then k (.str (h-l) ((n >>> (8 * l)) % 256 ^ (h-l))) H else no 0) else no 0:=by
 show getA x e (fun x=>vStr id x fun len n=>bnd id hi e len fun h=>bnd id lo e 0 fun l=>ifB (Nat.ble l h) (ifB (Nat.ble h len) (forceN (Nat.sub h l) fun d=>forceN (Nat.mod (Nat.shiftRight n (Nat.mul 8 l)) (Nat.pow 256 d)) fun r=>k (.str d r) H) (no 0)) (no 0))=_
 simp only [getA_eq,forceN_eq,ifB_if,nble]
 rfl
theorem op_slV0 {size:Nat} {x:Arg} {lo hi:Option Arg}:evOp (.slV size x lo hi none) id ph e H k=vSliceN id (pgetA x e) (fun b o len cp sz=>bnd id lo e 0 fun l=>bnd id hi e len fun h=>if l≤h then
   (if cp=0 then (if h≤len then (if sz=size then k (.slice b (o+l * size) (h-l) 0 sz) H else no 0) else no 0)
    else (if h≤cp-1 then (if cp-1=l then k (.slice b o (h-l) 1 0) H else k (.slice b (o+l * size) (h-l) (cp-1-l+1) 0) H) else no 0)) else no 0)
  (bnd id lo e 0 fun l=>bnd id hi e 0 fun h=>if l=0 then (if h=0 then k .nils H else no 0) else no 0):=by
 show getA x e (fun x=>vSliceN id x (fun b o len cp sz=>
  bnd id lo e 0 fun l=>bnd id hi e len fun h=>ifB (Nat.ble l h) (forceN (Nat.sub h l) fun d=>
    (Nat.rec (motive:=fun _=>R)
     (ifB (Nat.ble h len) (ifB (Nat.beq sz size) (forceN (Nat.add o (Nat.mul l size)) fun o'=>k (.slice b o' d 0 sz) H) (no 0)) (no 0))
     (fun q _=>ifB (Nat.ble h q) (ifB (Nat.beq q l) (k (.slice b o d 1 0) H) (forceN (Nat.add o (Nat.mul l size)) fun o'=>forceN (Nat.succ (Nat.sub q l)) fun c'=>k (.slice b o' d c' 0) H)) (no 0)) cp)) (no 0))
  (bnd id lo e 0 fun l=>bnd id hi e 0 fun h=>ifB (Nat.beq l 0) (ifB (Nat.beq h 0) (ifB (Nat.beq 0 0) (k .nils H) (no 0)) (no 0)) (no 0)))=_
 simp only [getA_eq,forceN_eq,ifB_if,nble,nbeq,if_true]
 congr 1
 funext b o len cp sz
 congr 1
 funext l
 congr 1
 funext h
 cases cp with
 | zero=>rfl
 | succ q=>rfl
theorem op_slV1 {size:Nat} {x m:Arg} {lo hi:Option Arg}:evOp (.slV size x lo hi (some m)) id ph e H k=vSliceN id (pgetA x e) (fun b o len cp sz=>bnd id lo e 0 fun l=>bnd id hi e len fun h=>if l≤h then
   (bnd id (some m) e 0 fun m=>if h≤m then (if m≤(if cp=0 then len else cp-1) then (if m=l then k (.slice b o (h-l) 1 0) H else k (.slice b (o+l * size) (h-l) (m-l+1) 0) H) else no 0) else no 0) else no 0)
  (bnd id lo e 0 fun l=>bnd id hi e 0 fun h=>bnd id (some m) e 0 fun m=>if l=0 then (if h=0 then (if m=0 then k .nils H else no 0) else no 0) else no 0):=by
 show getA x e (fun x=>vSliceN id x (fun b o len cp sz=>
  bnd id lo e 0 fun l=>bnd id hi e len fun h=>ifB (Nat.ble l h) (forceN (Nat.sub h l) fun d=>
    bnd id (some m) e 0 fun m=>ifB (Nat.ble h m) (ifB (Nat.ble m (Nat.rec (motive:=fun _=>Nat) len (fun q _=>q) cp)) (ifB (Nat.beq m l) (k (.slice b o d 1 0) H) (forceN (Nat.add o (Nat.mul l size)) fun o'=>forceN (Nat.succ (Nat.sub m l)) fun c'=>k (.slice b o' d c' 0) H)) (no 0)) (no 0)) (no 0))
  (bnd id lo e 0 fun l=>bnd id hi e 0 fun h=>bnd id (some m) e 0 fun m=>ifB (Nat.beq l 0) (ifB (Nat.beq h 0) (ifB (Nat.beq m 0) (k .nils H) (no 0)) (no 0)) (no 0)))=_
 have hc:∀ (cp len:Nat),(Nat.rec (motive:=fun _=>Nat) len (fun q _=>q) cp:Nat)=if cp=0 then len else cp-1:=fun cp len=>by cases cp <;> rfl
 simp only [getA_eq,forceN_eq,ifB_if,nble,nbeq,hc]
 rfl
end
section
variable {cp:RC→CodeE} {t:Nat→Option FnE} {fuel d:Nat} {H:Heap} {k:K} {args caps:List V} {f F:Nat} {g:List V→Heap→K→R}
theorem call_nat (ht:t F=some (.nat g)) (hf:f % 2=0) (hF:f / 2=F):callP (evP cp t fuel (d+1)) (.func f caps) args H k=g (args ++ caps) H k:=by
 show Nat.rec (motive:=fun _=>R) (appL args caps fun args=>evT t fuel (evP cp t fuel d) (Nat.div f 2) args H k) (fun _ _=>appL caps args fun args=>evT t fuel (evP cp t fuel d) (Nat.div f 2) args H k) (Nat.mod f 2)=_
 have h1:Nat.mod f 2=0:=hf
 have h2:Nat.div f 2=F:=hF
 rw [h1,h2]
 show appL args caps (fun args=>evT t fuel (evP cp t fuel d) F args H k)=_
 rw [appL_eq]
 show forceN F (fun f=>Option.rec (motive:=fun _=>R) (no (100+f)) (fun fn=>evFn fn fuel (evP cp t fuel d) (args ++ caps) H k) (t f))=_
 rw [forceN_eq,ht]
 rfl
theorem nClone_map {b:Nat}:nClone [.map b] H k=bMap 0 (H.get b) fun es=>hNew H (.map es) fun n H'=>k (.map n) H':=by
 show hGet H b (fun bl=>bMap 0 bl fun es=>hNew H (.map es) fun n H'=>k (.map n) H')=_
 rw [hGet_eq]
end
end Go.Ev
end
section
namespace Go.Ev
def putB (x off ml mx:Nat):Nat:=x % 256 ^ off+(mx+(x >>> (8 * (off+ml))) * 256 ^ ml) * 256 ^ off
section
variable {id:Nat} {ph:Phi} {e:Env} {H:Heap} {k:K}
theorem storeN_v {b off:Nat} {m:List V} {k:Heap→R}:storeN id H b off m k=bOn id (H.get b) (fun l=>allOne id m (setAt id m l off fun l'=>hSet id H b (.cells l') k))
 fun len x=>packB id m fun ml mx=>if off+ml≤len then hSet id H b (.bytes len (putB x off ml mx)) k else no 0:=by
 rw [storeN_val]
 congr 1
 funext len x
 congr 1
 funext ml mx
 rw [ifB_if]
 simp only [nble,forceN_eq]
 have h:(Nat.add (Nat.mod x (Nat.pow 256 off)) (Nat.shiftLeft (Nat.add mx (Nat.shiftLeft (Nat.shiftRight x (Nat.mul 8 (Nat.add off ml))) (Nat.mul 8 ml))) (Nat.mul 8 off)):Nat)=putB x off ml mx:=by
  rw [shl8,shl8]
  rfl
 rw [h]
 rfl
theorem op_slA {n size:Nat} {x:Arg} {lo hi mx:Option Arg}:evOp (.slA n size x lo hi mx) id ph e H k=vPtr id (pgetA x e) fun b o=>bnd id mx e n fun m=>bnd id hi e n fun h=>bnd id lo e 0 fun l=>if l≤h then (if h≤m then (if m≤n then (if m=l then k (.slice b o (h-l) 1 0) H else k (.slice b (o+l * size) (h-l) (m-l+1) 0) H) else no 0) else no 0) else no 0:=by
 show getA x e (fun x=>vPtr id x fun b o=>bnd id mx e n fun m=>bnd id hi e n fun h=>bnd id lo e 0 fun l=>ifB (Nat.ble l h) (ifB (Nat.ble h m) (ifB (Nat.ble m n) (forceN (Nat.sub h l) fun d=>ifB (Nat.beq m l) (k (.slice b o d 1 0) H) (forceN (Nat.add o (Nat.mul l size)) fun o'=>forceN (Nat.succ (Nat.sub m l)) fun c'=>k (.slice b o' d c' 0) H)) (no 0)) (no 0)) (no 0))=_
 simp only [getA_eq,forceN_eq,ifB_if,nble,nbeq]
 rfl
theorem bf_shr {half bits a b:Nat} {f:Nat→R}:evBF id (.shr half bits) a b f=if a<half then (if b≤bits then f (a >>> b) else (if b<9223372036854775808 then f 0 else no 0)) else no 0:=by
 show ifB (Nat.blt a half) (ifB (Nat.ble b bits) (forceN (Nat.shiftRight a b) f) (ifB (Nat.blt b 9223372036854775808) (f 0) (no 0))) (no 0)=_
 simp only [forceN_eq,ifB_if,nble,nblt]
 rfl
theorem bf_shl {m bits a b:Nat} {f:Nat→R}:evBF id (.shl m bits) a b f=if b≤bits then f ((a <<< b) % m) else (if b<9223372036854775808 then f 0 else no 0):=by
 show ifB (Nat.ble b bits) (forceN (Nat.mod (Nat.shiftLeft a b) m) f) (ifB (Nat.blt b 9223372036854775808) (f 0) (no 0))=_
 simp only [forceN_eq,ifB_if,nble,nblt]
 rfl
theorem bf_bor {a b:Nat} {f:Nat→R}:evBF id .bor a b f=f (a ||| b):=forceN_eq _ _
theorem bf_band {a b:Nat} {f:Nat→R}:evBF id .band a b f=f (a &&& b):=forceN_eq _ _
end
def tv (l:List UInt8):V := .str l.length (enc l)
end Go.Ev
end
section
namespace Go.Ev
def findRC:CodeE→Option (RC × RC)
 | .seq a b=>match findRC a with
  | some r=>some r
  | none=>findRC b
 | .cond _ a b=>match findRC a with
  | some r=>some r
  | none=>findRC b
 | .block _ a=>findRC a
 | .loop a=>findRC a
 | .rangeF _ _ a b=>some (a,b)
 | .rangeN _ _ a b=>some (a,b)
 | _=>none
def rcOf (o:Option FnE):RC × RC:=match o with
 | some (.code _ _ c)=>(findRC c).getD (⟨0,0, .ret⟩,⟨0,0, .ret⟩)
 | _=>(⟨0,0, .ret⟩,⟨0,0, .ret⟩)
section
variable {id:Nat} {ph:Phi} {e:Env} {H:Heap} {k:K} {fuel:Nat} {kn:KE} {kx:Nat→KE}
theorem bLoop_loop {st j:Nat} {e:Env} {ps:List Slot} {as bo:RC} {f:Nat→Nat→Env→List Slot→RC→RC→R}:bLoop (.loop st j e ps as bo) f=f st j e ps as bo:=Eq.trans rfl rfl
theorem evC_rangeF {g:Arg} {ps:List Slot} {as bo:RC} {f:Nat} {caps:List V} (hw:H.wf) (hg:pgetA g e = .func f caps) (hf:f % 2=0) {G:Heap} {v:V}
  (hcall:∀ k:K,callP ph (.func f caps) [.yld (H.n+1)] ((H.new .mark).new (.loop 0 0 e ps as bo)) k=k v G) {e':Env} {ps':List Slot} {as' bo':RC} (hG:G.get (H.n+1) = .loop 0 0 e' ps' as' bo') (hGw:G.wf) (hGn:H.n+1<G.n) :
  evC (.rangeF g ps as bo) fuel ph e H kn kx=kn e (G.put (H.n+1) (.loop 3 0 e' ps' as' bo')):=by
 show getA g e (fun g=>vFunc 0 g fun f caps=>Nat.rec (motive:=fun _=>R) (hNew H .mark fun _ H=>hNew H (.loop 0 0 e ps as bo) fun b H=>ph (.func f caps) [.yld b] H fun _ H=>
  hGet H b fun bl=>bLoop bl fun st j e' ps' as' bo'=>Nat.rec (motive:=fun _=>R) (hSet 0 H b (.loop 3 j e' ps' as' bo') fun H=>Nat.rec (motive:=fun _=>R) (kn e H) (fun m _=>kx m e H) j) (fun s _=>Nat.rec (motive:=fun _=>R) (no 10) (fun _ _=>hSet 0 H b (.loop 3 j e' ps' as' bo') fun H=>Nat.rec (motive:=fun _=>R) (kn e H) (fun m _=>kx m e H) j) s) st) (fun _ _=>no 14) (Nat.mod f 2))=_
 rw [getA_eq,hg]
 show Nat.rec (motive:=fun _=>R) _ _ (Nat.mod f 2)=_
 have hf':Nat.mod f 2=0:=hf
 rw [hf']
 show hNew H .mark (fun _ H=>hNew H (.loop 0 0 e ps as bo) fun b H=>ph (.func f caps) [.yld b] H fun _ H=>_)=_
 rw [hNew_new hw,hNew_new (by rw [Heap.wf_new];exact hw),Heap.n_new]
 refine (hcall _).trans ?_
 rw [hGet_eq,hG]
 show hSet 0 G (H.n+1) (.loop 3 0 e' ps' as' bo') (fun H=>kn e H)=_
 rw [hSet_put hGw hGn]
theorem evY_round {cp:RC→CodeE} {b:Nat} {args:List V} {e0 e1 e2:Env} {ps:List Slot} {as bo:RC} {H2 H3:Heap} (hb:H.get b = .loop 0 0 e0 ps as bo) (hps:∀ f:Env→R,setPs ps args e0 f=f e1)
  (has:∀ (kn:KE) (kx:Nat→KE),evC (cp as) fuel ph e1 H kn kx=kn e2 H2) (h2:H2.get b = .loop 0 0 e0 ps as bo) (hw2:H2.wf) (hn2:b<H2.n)
  (hbo:∀ (kn:KE) (kx:Nat→KE),∃ e3,evC (cp bo) fuel ph e2 (H2.put b (.loop 1 0 e0 ps as bo)) kn kx=kn e3 H3) (h3:H3.get b = .loop 1 0 e0 ps as bo) (hw3:H3.wf) (hn3:b<H3.n) :
  evY cp fuel ph b args H k=k (.bool true) (H3.put b (.loop 0 0 e0 ps as bo)):=by
 unfold evY
 rw [hGet_eq,hb]
 show setPs ps args e0 _=_
 rw [hps,has,hGet_eq,h2]
 show hSet 0 H2 b (.loop 1 0 e0 ps as bo) (fun H=>evC (cp bo) fuel ph e2 H
   (fun _ H=>hGet H b fun bl=>bLoop bl fun _ _ e' ps' as' bo'=>hSet 0 H b (.loop 0 0 e' ps' as' bo') fun H=>k (.bool true) H)
   fun n _ H=>hGet H b fun bl=>bLoop bl fun _ _ e' ps' as' bo'=>hSet 0 H b (.loop 2 (Nat.succ n) e' ps' as' bo') fun H=>k (.bool false) H)=_
 rw [hSet_put hw2 hn2]
 obtain ⟨e3,he⟩:=hbo (fun _ H=>hGet H b fun bl=>bLoop bl fun _ _ e' ps' as' bo'=>hSet 0 H b (.loop 0 0 e' ps' as' bo') fun H=>k (.bool true) H)
  (fun n _ H=>hGet H b fun bl=>bLoop bl fun _ _ e' ps' as' bo'=>hSet 0 H b (.loop 2 (Nat.succ n) e' ps' as' bo') fun H=>k (.bool false) H)
 rw [he,hGet_eq,h3]
 show hSet 0 H3 b (.loop 0 0 e0 ps as bo) (fun H=>k (.bool true) H)=_
 rw [hSet_put hw3 hn3]
theorem callP_yld {cp:RC→CodeE} {t:Nat→Option FnE} {d b:Nat} {args:List V}:callP (evP cp t fuel (d+1)) (.yld b) args H k=evY cp fuel (evP cp t fuel d) b args H k:=Eq.trans rfl rfl
theorem evC_freg {ops:List OpW2}:evC (.freg ops) fuel ph e H kn kx=evFreg ph H.n ops e H [] [] kn:=by cases H;exact Eq.trans rfl rfl
variable {n0:Nat} {l:List OpW2} {fl st:List (Nat × Nat)} {dd:Option Slot} {i bf:Nat} {ad:Arg} {op:OpE}
theorem evFreg_nil:evFreg ph n0 [] e H fl st kn=kn e H:=Eq.trans rfl rfl
theorem evFreg_0:evFreg ph n0 (⟨id,dd,none,0,i,bf,ad,op⟩ :: l) e H fl st kn=evOp op id ph e H fun v H'=>evFreg ph n0 l (psetD dd v e) H' fl st kn:=by
 show evOp op id ph e H (fun v H'=>setD dd v e fun e'=>evFreg ph n0 l e' H' fl st kn)=_
 simp only [setD_eq]
theorem evFreg_1:evFreg ph n0 (⟨id,dd,none,1,i,bf,ad,op⟩ :: l) e H fl st kn=evOp op id ph e H.mark fun v H'=>if H.n≤H'.wlo then evFreg ph n0 l (psetD dd v e) (H'.unmark H.wlo) fl st kn else no 0:=by
 cases H with
 | mk n wlo t=>
  show evOp op id ph e (.mk n n t) (fun v H'=>Heap.rec (motive:=fun _=>R) (fun n' wlo' t'=>ifB (Nat.ble n wlo') (setD dd v e fun e'=>evFreg ph n0 l e' (.mk n' wlo t') fl st kn) (no 0)) H')=evOp op id ph (e) (.mk n n t) _
  congr 1
  funext v H'
  cases H' with
  | mk n' wlo' t'=>
   show ifB (Nat.ble n wlo') (setD dd v e fun e'=>evFreg ph n0 l e' (.mk n' wlo t') fl st kn) (no 0)=_
   rw [ifB_if,setD_eq]
   simp only [nble]
   rfl
theorem apartN_nil {id bf b:Nat} {k:R}:apartN id bf b [] k=k:=Eq.trans rfl rfl
theorem apartN_cons {id bf b i' b':Nat} {l:List (Nat × Nat)} {k:R}:apartN id bf b ((i',b') :: l) k=if Nat.testBit bf i'=true then apartN id bf b l k else if b=b' then no 0 else apartN id bf b l k:=by
 show ifB (Nat.testBit bf i') (apartN id bf b l k) (ifB (Nat.beq b b') (no 0) (apartN id bf b l k))=_
 rw [ifB_if,ifB_if]
 simp only [nbeq]
theorem evFreg_2 {b o:Nat} (hb:pgetA ad e = .ptr b o) (hlt:b<n0) {v:V} (hop:∀ k:K,evOp op id ph e H k=k v H) (hst:∀ k:R,apartN id bf b st k=k) :
  evFreg ph n0 (⟨id,dd,none,2,i,bf,ad,op⟩ :: l) e H fl st kn=evFreg ph n0 l (psetD dd v e) H ((i,b) :: fl) st kn:=by
 show getA ad e (fun a=>adBlk id a fun ob=>Option.rec (motive:=fun _=>R) (no 0) (fun b=>ifB (Nat.blt b n0) (apartN id bf b st (evOp op id ph e H fun v H'=>setD dd v e fun e'=>evFreg ph n0 l e' H ((i,b) :: fl) st kn)) (no 0)) ob)=_
 rw [getA_eq,hb]
 show ifB (Nat.blt b n0) (apartN id bf b st (evOp op id ph e H fun v H'=>setD dd v e fun e'=>evFreg ph n0 l e' H ((i,b) :: fl) st kn)) (no 0)=_
 rw [ifB_if,if_pos (by simp only [nblt];exact hlt),hst,hop,setD_eq]
theorem evFreg_3 {b o:Nat} (hb:pgetA ad e = .ptr b o) {v:V} {H':Heap} (hop:∀ k:K,evOp op id ph e H k=k v H') (hfl:∀ k:R,apartN id bf b fl k=k) :
  evFreg ph n0 (⟨id,dd,none,3,i,bf,ad,op⟩ :: l) e H fl st kn=evFreg ph n0 l (psetD dd v e) H' fl ((i,b) :: st) kn:=by
 show getA ad e (fun a=>adBlk id a fun ob=>Option.rec (motive:=fun _=>R) (evOp op id ph e H fun v H'=>setD dd v e fun e'=>evFreg ph n0 l e' H' fl st kn)
      (fun b=>apartN id bf b fl (evOp op id ph e H fun v H'=>setD dd v e fun e'=>evFreg ph n0 l e' H' fl ((i,b) :: st) kn)) ob)=_
 rw [getA_eq,hb]
 show apartN id bf b fl (evOp op id ph e H fun v H'=>setD dd v e fun e'=>evFreg ph n0 l e' H' fl ((i,b) :: st) kn)=_
 rw [hfl,hop,setD_eq]
theorem evFreg_4:evFreg ph n0 (⟨id,dd,none,4,i,bf, .c .nils,op⟩ :: l) e H fl st kn=evOp op id ph e H.mark fun v H'=>if H.n≤H'.wlo then closB id (H'.get H.n) (evFreg ph n0 l (psetD dd v e) (H'.unmark H.wlo) ((i,H.n) :: fl) st kn) else no 0:=by
 cases H with
 | mk n wlo t=>
  show evOp op id ph e (.mk n n t) (fun v H'=>Heap.rec (motive:=fun _=>R) (fun n' wlo' t'=>ifB (Nat.ble n wlo') (closB id (HT.get t' n) (setD dd v e fun e'=>evFreg ph n0 l e' (.mk n' wlo t') ((i,n) :: fl) st kn)) (no 0)) H')=evOp op id ph (e) (.mk n n t) _
  congr 1
  funext v H'
  cases H' with
  | mk n' wlo' t'=>
   show ifB (Nat.ble n wlo') (closB id (HT.get t' n) (setD dd v e fun e'=>evFreg ph n0 l e' (.mk n' wlo t') ((i,n) :: fl) st kn)) (no 0)=_
   rw [ifB_if,setD_eq]
   simp only [nble]
   rfl
theorem op_mdel {ks:Bool} {m x:Arg}:evOp (.mdel ks m x) id ph e H k=vMap id (pgetA m e) fun b=>bMap id (H.get b) fun es=>delL id ks es (pgetA x e) fun es'=>hSet id H b (.map es') fun H=>k (.tup []) H:=by
 show getA m e (fun m=>getA x e fun x=>vMap id m fun b=>hGet H b fun bl=>bMap id bl fun es=>delL id ks es x fun es'=>hSet id H b (.map es') fun H=>k (.tup []) H)=_
 simp only [getA_eq,hGet_eq]
def del:List (Nat × (Nat × Nat))→Nat→List (Nat × (Nat × Nat))
 | [],_ => []
 | p :: D,a=>if a=p.1 then D else p :: del D a
end
end Go.Ev
end
section
namespace Go.Ev
attribute [go_sem ↓] setPs_cons setPs_nil evC_skip evC_seq evC_reg evC_dreg evC_cond evC_loop evC_block evC_exit evC_ret evReg_none evReg_some evReg_nil evDreg_none evDreg_some evDreg_nil evDreg_mild evDreg_mildG op_mov op_pick op_newC op_newB op_mkMap op_box op_load1 op_loadA op_store1 op_storeA op_nilc op_bin op_cmp op_eqv op_lnot op_fadd op_fld1 op_fldA op_extr op_mkI op_tas vIf_iface op_mkF op_call op_callV op_lenS op_lenL op_lenM op_mm op_ixV op_ixA op_conv0 op_build op_bslice op_bsliceB op_scmp op_sadd op_look op_mset fillL_nil fillL_cons lenR_eq idx_eq packB_nil packB_cons loadB_on op_mkSliceB op_convB2S op_convS2B op_ixS op_slS op_slV0 op_slV1 bnd_none bnd_some bf_add bf_sub bf_mul loadC_on loadN_on rdC_on rdN_on rdB_cells rdB_bytes rdB_view rdNB_cells rdNB_bytes rdNB_view storeN_v op_slA bf_shr bf_shl bf_bor bf_band appC_move appC_grow nClone_map hNew_new hSet_put vInt_int vBool_bool vStr_str vPtr_ptr vSlice_slice vSliceN_slice vSliceN_nils vMap_map vMapN_map vMapN_nilm vFunc_func vAgg_agg vTup_tup vNilc_ptr vCells_int vCells_bool vCells_str vCells_ptr vCells_nilp vCells_slice vCells_nils vCells_map vCells_nilm vCells_func vCells_nilf vCells_agg isOne_int isOne_bool isOne_str isOne_ptr isOne_nilp isOne_slice isOne_nils isOne_map isOne_nilm isOne_func isOne_nilf isKey_int isKey_str nilly_bool nilly_ptr nilly_nilp nilly_slice nilly_nils nilly_map nilly_nilm nilly_func nilly_nilf isB_tt isB_tf isB_ft isB_ff bOn_cells bOn_bytes bMap_map allOne_cons allOne_nil nth_zero nth_succ dropN_eq takeN_eq setAt_one setAt_eq newCells_slice newCells_nils lookL_enc setL_enc optOn_some optOn_none retF_nil retF_one retF_two retF_three
attribute [go_sem] List.append_nil List.nil_append List.cons_append cf_eq cf_ne lt_nn le_nn gt_nn ge_nn sub_nn max_nn min_nn nn_lit psetD_some psetD_none pgetA_s pgetA_c pget_pset Slot.mk.injEq and_true and_false true_and false_and not_true_eq_false not_false_eq_true if_true if_false Nat.zero_shiftRight Nat.zero_mod Nat.add_zero Nat.zero_add Nat.zero_mul Nat.mul_one Nat.one_mul Nat.zero_le Nat.le_refl Bool.not_true Bool.not_false Bool.false_eq_true Bool.true_eq_false eq_self List.length_cons List.length_nil List.length_map List.length_append List.set_cons_succ List.set_cons_zero List.map_cons List.map_nil List.take_succ_cons List.take_zero List.take_nil List.drop_succ_cons List.drop_zero List.drop_nil Heap.get_put Heap.get_new Heap.wf_put Heap.wf_new Heap.n_put Heap.n_new Heap.put_put Heap.n_mark Heap.wlo_mark Heap.get_mark Heap.wf_mark Heap.unmark_mark2 Heap.unmark_new2 Heap.unmark_self Heap.wlo_new
end Go.Ev
end
section
namespace Go.Ev
open Go.RowKit
open Classical
noncomputable def vOf (N:Nat) (v:Value):V:=match constV1 v with
 | some u=>u
 | none=>match v with
  | .slice (some a) l cap=>if l≤cap then (if a.spot=none∧a.block<N then .slice a.block a.off l (cap+1) 0 else if cap=0 then .slice N a.off 0 1 0 else .tup []) else .tup []
  | .pointer (some a)=>if a.spot=none∧a.block<N then .ptr a.block a.off else .tup []
  | .map (some b)=>if b<N then .map b else .tup []
  | _ => .tup []
noncomputable def rowView (N:Nat) (c:Array Value) (fr:Nat × Nat):List V:=c.toList.mapIdx fun i v=>if fr.1≤i∧i<fr.2 then .tup [] else vOf N v
noncomputable def gOf (w:World) (b:Nat):Blk:=if GB b then .dead else match w.heap[b]? with
 | some (.cells c _ fr) => .view (rowView w.heap.size c fr)
 | _ => .dead
noncomputable def adoptN (w:World):Nat→Heap
 | 0=>H0
 | n+1=>(adoptN w n).new (gOf w n)
noncomputable def adopt (w:World):Heap:=(adoptN w (w.heap.size+1)).mark
noncomputable def rhoOf (w:World) (b:Nat):Option Nat:=if (gOf w b).alive then some b else none
theorem adoptN_ok (w:World):∀ n,(adoptN w n).wf∧(adoptN w n).n=n ∧ ∀ b,(adoptN w n).get b=if b<n then gOf w b else .dead
 | 0=>⟨fun b h=>absurd h (Nat.not_lt_zero b),rfl,fun b=>by rw [if_neg (Nat.not_lt_zero b)];exact HT.get_e b⟩
 | n+1=>by
  obtain ⟨h1,h2,h3⟩:=adoptN_ok w n
  refine ⟨by unfold adoptN;rw [Heap.wf_new];exact h1,by unfold adoptN;rw [Heap.n_new,h2],fun b => ?_⟩
  unfold adoptN
  rw [Heap.get_new h1,h2,h3]
  by_cases hb:b=n
  ·subst hb;rw [if_pos rfl,if_pos (by omega)]
  ·rw [if_neg hb]
   by_cases hb2:b<n
   ·rw [if_pos hb2,if_pos (by omega)]
   ·rw [if_neg hb2,if_neg (by omega)]
theorem adopt_wf (w:World):(adopt w).wf:=by unfold adopt;rw [Heap.wf_mark];exact (adoptN_ok w _).1
theorem adopt_n (w:World):(adopt w).n=w.heap.size+1:=by unfold adopt;rw [Heap.n_mark];exact (adoptN_ok w _).2.1
theorem adopt_wlo (w:World):(adopt w).wlo=w.heap.size+1:=by unfold adopt;rw [Heap.wlo_mark];exact (adoptN_ok w _).2.1
theorem gOf_out {w:World} {b:Nat} (h:w.heap.size≤b):gOf w b = .dead:=by
 unfold gOf
 rw [Array.getElem?_eq_none h]
 split <;> rfl
theorem adopt_get (w:World) (b:Nat):(adopt w).get b=gOf w b:=by
 unfold adopt
 rw [Heap.get_mark,(adoptN_ok w _).2.2]
 split
 ·rfl
 ·rw [gOf_out (by omega)]
theorem gOf_alive {w:World} {b:Nat} (h:(gOf w b).alive):(∃ c e fr,w.heap[b]? = some (.cells c e fr)∧gOf w b = .view (rowView w.heap.size c fr)) ∧ ¬ GB b:=by
 unfold gOf at h ⊢
 by_cases hg:GB b
 ·rw [if_pos hg] at h;exact h.elim
 ·rw [if_neg hg] at h ⊢
  refine ⟨?_,hg⟩
  split at h
  ·rename_i c e fr hc;exact ⟨c,e,fr,hc,rfl⟩
  ·exact h.elim
theorem vOf_ok (w:World) (v:Value) (h:(vOf w.heap.size v).one=true):VR (mu (rhoOf w) (adopt w) w) (vOf w.heap.size v) v:=by
 have hb:∀ b,b<w.heap.size→(mu (rhoOf w) (adopt w) w).b b b:=fun b hb=>⟨by rw [adopt_n];omega,fun ha=>by rw [adopt_get] at ha;exact if_pos ha⟩
 unfold vOf at h ⊢
 cases hc:constV1 v with
 | some u=>exact (constV1_ok hc).1
 | none=>
  rw [hc] at h
  simp only at h ⊢
  split at h
  ·rename_i a l cap
   split at h
   ·rename_i hl
    rw [if_pos hl]
    split at h
    ·rename_i hs
     rw [if_pos hs]
     obtain ⟨b,off,spot⟩:=a
     obtain ⟨rfl,hbs⟩:=hs
     simp only [VR]
     exact ⟨b,cap,off,none,rfl,hb b hbs,hl,⟨fun q hq=>by omega,fun h=>by omega⟩,Or.inl ⟨rfl,rfl⟩⟩
    ·rename_i hs
     rw [if_neg hs]
     split at h
     ·rename_i h0
      subst h0
      obtain rfl:l=0:=by omega
      rw [if_pos rfl]
      simp only [VR]
      exact ⟨a.block,0,a.off,a.spot,rfl,⟨by rw [adopt_n];omega,fun ha=>by rw [adopt_get,gOf_out (Nat.le_refl _)] at ha;exact ha.elim⟩,Nat.le_refl _,⟨fun q hq=>by omega,fun h=>by omega⟩,Or.inr rfl⟩
     ·cases h
   ·cases h
  ·rename_i a
   split at h
   ·rename_i hs
    rw [if_pos hs]
    obtain ⟨b,off,spot⟩:=a
    obtain ⟨rfl,hbs⟩:=hs
    simp only [VR]
    exact ⟨b,rfl,hb b hbs⟩
   ·cases h
  ·rename_i b
   split at h
   ·rename_i hs
    rw [if_pos hs]
    simp only [VR]
    exact ⟨b,rfl,hb b hs⟩
   ·cases h
  ·cases h
theorem rowView_get {N:Nat} {c:Array Value} {fr:Nat × Nat} {i:Nat} {cv:Value} (h:c[i]? = some cv) (hf:¬ (fr.1≤i∧i<fr.2)):(rowView N c fr)[i]? = some (vOf N cv):=by
 unfold rowView
 rw [List.getElem?_mapIdx,Array.getElem?_toList,h,Option.map_some,if_neg hf]
section
variable {P:Program} {base:Nat} {w0 w w':World} {rho:Nat→Option Nat} {H H':Heap}
theorem PR.late (h:PR P base w0 rho H w) (hbl:Below w.heap.size w w') {bl:Blk} {o:Obj} {g:Nat} (hn:H'.n=H.n+1) (hw:H'.wlo=H.wlo) (hg:H'.get H.n=bl) (ho:∀ j,j≠H.n→H'.get j=H.get j)
  (ha:bl.alive) (hgs:w.heap.size≤g) (hnew:w'.heap[g]? = some o) (hb:BR P (mu rho H w) bl o) :
  PR P base w0 (fun b=>if b=H.n then some g else rho b) H' w'∧Ext rho H w (fun b=>if b=H.n then some g else rho b) H' w':=by
 have hlt:=h.lt
 have hgl:g<w'.heap.size:=(Array.getElem?_eq_some_iff.1 hnew).1
 have hE:Ext rho H w (fun b=>if b=H.n then some g else rho b) H' w':=by
  refine ⟨by omega,by omega,hbl.size,fun b hb _=>⟨ho b (by omega),by simp [Nat.ne_of_lt hb]⟩,fun b c hb hr => ?_,fun b c hr _ => ?_,fun b hb hal => ?_,fun b c hb hr => ?_,fun c hc _=>hbl.block c hc,fun b hm => ?_,fun c cs e fr hc=>⟨cs,e,fr,(hbl.block c (Array.getElem?_eq_some_iff.1 hc).1).trans hc,rfl⟩,fun c r hc=>⟨r,(hbl.block c (Array.getElem?_eq_some_iff.1 hc).1).trans hc⟩⟩
  ·simpa [Nat.ne_of_lt hb] using hr
  ·have:=hlt b c hr;simp [Nat.ne_of_lt this,hr]
  ·rwa [ho b (by omega)] at hal
  ·by_cases hb':b=H.n
   ·simp [hb'] at hr;omega
   ·simp [hb'] at hr;have:=hlt b c hr;omega
  ·have hb':b≠H.n:=fun e=>by subst e;rw [h.out H.n (Nat.le_refl _)] at hm;cases hm
   exact ⟨(ho b hb').trans hm,by simp [hb'],fun c hc=>hbl.block c (h.dom b c hc).2.2.1⟩
 refine ⟨⟨h.below.trans (hbl.mono h.base_le),Nat.le_trans h.base_le hbl.size,by have:=h.wn;omega,fun b c hr => ?_,fun b b' c hr hr' => ?_,fun b c hr => ?_,fun b hb' => ?_,h.gl.step hE⟩,hE⟩
 ·by_cases hb':b=H.n
  ·subst hb'
   simp at hr
   subst hr
   exact ⟨by omega,Nat.le_trans h.base_le hgs,hgl,by rw [hg];exact ha⟩
  ·simp [hb'] at hr
   obtain ⟨h1,h2,h3,h4⟩:=h.dom b c hr
   exact ⟨by omega,h2,Nat.lt_of_lt_of_le h3 hbl.size,by rw [ho b hb'];exact h4⟩
 ·by_cases h1:b=H.n <;> by_cases h2:b'=H.n <;> simp [h1,h2] at hr hr'
  ·omega
  ·have:=(h.dom b' c hr').2.2.1;omega
  ·have:=(h.dom b c hr).2.2.1;omega
  ·exact h.inj b b' c hr hr'
 ·by_cases hb':b=H.n
  ·subst hb'
   simp at hr
   subst hr
   exact ⟨o,hnew,by rw [hg];exact hb.mono hE.mu⟩
  ·simp [hb'] at hr
   obtain ⟨o',h1,h2⟩:=h.blk b c hr
   refine ⟨o',(hbl.block c (h.dom b c hr).2.2.1).trans h1, ?_⟩
   rw [ho b hb']
   exact h2.mono hE.mu
 ·rw [ho b (by omega)]
  exact h.out b (by omega)
end
section
variable {P:Program}
theorem PR.adopt (w:World) (hg:GQ w ∧ ∀ c,GB c→c<w.heap.size:=by exact Gno):PR P 0 w (rhoOf w) (Ev.adopt w) w:=by
 have hr:∀ b c,rhoOf w b=some c→b=c∧(gOf w b).alive:=fun b c h=>by
  unfold rhoOf at h
  split at h
  ·rename_i ha;cases h;exact ⟨rfl,ha⟩
  ·cases h
 refine ⟨Below.refl _ _,Nat.zero_le _,by rw [adopt_wlo,adopt_n];exact Nat.le_refl _,fun b c h => ?_,fun b b' c h h'=>(hr _ _ h).1.trans (hr _ _ h').1.symm,fun b c h => ?_,fun b hb => ?_,hg.1,hg.2,fun b c h => ?_⟩
 ·obtain ⟨rfl,ha⟩:=hr _ _ h
  obtain ⟨⟨cs,e,fr,h1,h2⟩,_⟩:=gOf_alive ha
  have hlt:=(Array.getElem?_eq_some_iff.1 h1).1
  exact ⟨by rw [adopt_n];omega,Nat.zero_le _,hlt,by rw [adopt_get];exact ha⟩
 ·obtain ⟨rfl,ha⟩:=hr _ _ h
  obtain ⟨⟨cs,e,fr,h1,h2⟩,_⟩:=gOf_alive ha
  refine ⟨_,h1, ?_⟩
  rw [adopt_get,h2]
  refine ⟨cs,e,fr,rfl,fun i v hi ho => ?_⟩
  unfold rowView at hi
  rw [List.getElem?_mapIdx,Array.getElem?_toList] at hi
  obtain ⟨cv,h3,h4⟩:=Option.map_eq_some_iff.1 hi
  split at h4
  ·subst h4;cases ho
  ·rename_i hf
   subst h4
   exact ⟨⟨cv,h3,vOf_ok w cv ho⟩,hf⟩
 ·rw [adopt_n] at hb
  rw [adopt_get,gOf_out (by omega)]
 ·obtain ⟨rfl,ha⟩:=hr _ _ h
  exact (gOf_alive ha).2
theorem called (hm:P.follows .mixedOrders=true) {t:Nat→Option FnE} (ht:TabOK P t) {fuel depth:Nat} {f:FuncId} {args:List V} {cargs:Array Value} {w:World} (ha:VRs (mu (rhoOf w) (Ev.adopt w) w) args cargs.toList)
  {H':Heap} (h:∀ k:K,callP (evP (compRC P) t fuel depth) (.func (2 * f) []) args (Ev.adopt w) k=k (.bool true) H') (hlo:w.heap.size+1≤H'.wlo) (hg:GQ w ∧ ∀ c,GB c→c<w.heap.size:=by exact Gno) :
  Calls P f cargs w fun e w'=>e = .returned (.bool true)∧Below w.heap.size w w':=by
 obtain ⟨v,H2,h1,h2⟩:=evP_ok hm ht fuel depth (.func (2 * f) []) args (Ev.adopt w) (fun v H2=>if v = .bool true∧H2=H' then 1 else 0) (by
  have:=h (fun v H2=>if v = .bool true∧H2=H' then 1 else 0)
  rw [if_pos ⟨rfl,rfl⟩] at this
  exact this)
 have h3:v = .bool true∧H2=H':=by
  by_cases hh:v = .bool true∧H2=H'
  ·exact hh
  ·simp only [if_neg hh] at h2
   exact absurd h2 (by decide)
 obtain ⟨rfl,rfl⟩:=h3
 have h4:=h1.2 f [] rfl
 rw [List.append_nil] at h4
 obtain ⟨_,h5⟩:=h4 0 w (rhoOf w) w cargs (PR.adopt w hg) ha
 refine CallsIn.calls (h5.mono fun e w' he => ?_) fun k=>by simp [Fence.room]
 obtain ⟨cv,rfl,rho',h6,h7,h8⟩:=he
 simp only [VR] at h6
 subst h6
 refine ⟨rfl,h7.below.os,h7.below.tape,h7.below.output,h7.below.size,fun k hk=>h8.fr k hk fun b hb => ?_⟩
 have:=(PR.adopt (P:=P) w hg).lt b k hb
 rw [adopt_n] at this
 omega
end
end Go.Ev
end
