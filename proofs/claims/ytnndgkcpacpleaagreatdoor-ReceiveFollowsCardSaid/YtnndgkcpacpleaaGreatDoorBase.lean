/- General words on worlds: blocks known whole,and what a call may have changed. Plain lemmas on the model's worlds,no program in sight. -/
import Derived.WalkKit
import Derived.ProofKit
import Derived.Laws.NewBlocks
import Derived.Deep.QuietTactic
import Derived.Laws.IdiomStrings
import Derived.Lib.BufferWrite
import Derived.Deep.OwnRows
import Derived.Laws.AppendOwn
open Nat renaming le_refl → YB,min_eq_left → QZ,min_eq_right → Qp
open List renaming take_of_length_le → YV,drop_eq_nil_of_le → WQ
open Array renaming getElem?_modify → QM,getElem?_push → Qs
namespace Go.Wd
open Go.RowKit
/-- A block of cells known whole,nothing of it frozen. -/
def Own (w:World) (b:Nat) (cs:Array Value) (t:TypeId):Prop:=w.heap[b]? = some (.cells cs t (0,0))
theorem Own.lt {w:World} {b:Nat} {cs:Array Value} {t:TypeId} (h:Own w b cs t):b<w.heap.size:=(Array.getElem?_eq_some_iff.1 h).1
theorem Own.cell {w:World} {b:Nat} {cs:Array Value} {t:TypeId} (h:Own w b cs t) (i:Nat):w.cell? ⟨b,i,none⟩=cs[i]?:=by
 unfold Own at h;simp [World.cell?,h]
theorem Own.EB {w:World} {b:Nat} {cs:Array Value} {t:TypeId} (h:Own w b cs t) {i:Nat} {v:Value} (hv:cs[i]? = some v):w.cell? ⟨b,i,none⟩=some v:=(h.cell i).trans hv
theorem Own.free {w:World} {b:Nat} {cs:Array Value} {t:TypeId} (h:Own w b cs t) (i:Nat):w.frozen? ⟨b,i,none⟩=false:=by
 unfold Own at h;simp [World.frozen?,h]
theorem Own.setCell {w:World} {b:Nat} {cs:Array Value} {t:TypeId} (h:Own w b cs t) (i:Nat) (v:Value):Own (w.setCell ⟨b,i,none⟩ v) b (cs.setIfInBounds i v) t:=by
 unfold Own at *
 simp only [World.setCell,QM,h]
 simp
theorem Own.setOther {w:World} {b:Nat} {cs:Array Value} {t:TypeId} (h:Own w b cs t) {a:Addr} (ha:a.block≠b) (v:Value):Own (w.setCell a v) b cs t:=by
 unfold Own at *
 simp only [World.setCell,QM]
 rw [if_neg ha];exact h
theorem Own.new (w:World) (cs:Array Value) (t:TypeId):Own (w.alloc (.cells cs t)) w.heap.size cs t:=by
 unfold Own
 show (w.heap.push _)[w.heap.size]? = _
 simp
theorem Own.alloc {w:World} {b:Nat} {cs:Array Value} {t:TypeId} (h:Own w b cs t) (o:Obj):Own (w.alloc o) b cs t:=by
 have:=h.lt
 unfold Own at *
 show (w.heap.push o)[b]? = _
 rw [Qs,if_neg (by omega)];exact h
theorem Own.drewN {w:World} {b:Nat} {cs:Array Value} {t:TypeId} (h:Own w b cs t) (n:Nat):Own (w.drewN n) b cs t:=h
theorem Own.drew {w:World} {b:Nat} {cs:Array Value} {t:TypeId} (h:Own w b cs t):Own w.drew b cs t:=h
/-- What a call may have changed of what was there: the blocks of S alone. -/
structure Mod (S:Nat->Prop) (w w':World):Prop where
 os:w'.os=w.os
 tape:w'.tape=w.tape
 output:w'.output=w.output
 size:w.heap.size<=w'.heap.size
 block:∀ k,k<w.heap.size->¬ S k->w'.heap[k]? = w.heap[k]?
variable {S T:Nat->Prop} {w w1 w2 w':World}
theorem Mod.refl (S:Nat->Prop) (w:World):Mod S w w:=⟨rfl,rfl,rfl,YB _,λ_ _ _=>rfl⟩
theorem Mod.trans' (h:Mod S w w1) (k:Mod T w1 w2) (hT:∀ i,i<w.heap.size->T i->S i):Mod S w w2:=
 ⟨k.os.trans h.os,k.tape.trans h.tape,k.output.trans h.output,Nat.le_trans h.size k.size,λi hi hs=>
  (k.block i (Nat.lt_of_lt_of_le hi h.size) (λht=>hs (hT i hi ht))).trans (h.block i hi hs)⟩
theorem Mod.trans (h:Mod S w w1) (k:Mod S w1 w2):Mod S w w2:=h.trans' k λ_ _ h=>h
theorem Mod.mono (h:Mod T w w1) (hT:∀ i,i<w.heap.size->T i->S i):Mod S w w1:=(Mod.refl S w).trans' h hT
theorem Mod.afm (h:Below w.heap.size w w1):Mod S w w1:=⟨h.os,h.tape,h.output,h.size,λk hk _=>h.block k hk⟩
theorem Mod.below (h:Mod S w w1) (hS:∀ i,i<w.heap.size->¬ S i):Below w.heap.size w w1:=⟨h.os,h.tape,h.output,h.size,λk hk=>h.block k hk (hS k hk)⟩
theorem Mod.afC {B:Nat} (h:Mod S w w1) (hB:B<=w.heap.size) (hS:∀ i,i<B->¬ S i):Below B w w1:=⟨h.os,h.tape,h.output,h.size,λk hk=>h.block k (by omega) (hS k hk)⟩
theorem Mod.alloc (h:Mod S w w1) (o:Obj):Mod S w (w1.alloc o):=
 h.trans ⟨rfl,rfl,rfl,by simp,λk hk _=>Below.heap_alloc _ _ _ hk⟩
theorem Mod.drewN (h:Mod S w w1) (n:Nat):Mod S w (w1.drewN n):=h.trans ⟨rfl,rfl,rfl,YB _,λ_ _ _=>rfl⟩
theorem Mod.drew (h:Mod S w w1):Mod S w w1.drew:=h.trans ⟨rfl,rfl,rfl,YB _,λ_ _ _=>rfl⟩
theorem Mod.setCell (h:Mod S w w1) (a:Addr) (v:Value) (ha:a.block<w.heap.size->S a.block):Mod S w (w1.setCell a v):=
 h.trans' (T:=λk=>k=a.block) ⟨rfl,rfl,rfl,by simp [World.setCell],λk _ hk=>Below.heap_setCell _ _ _ _ hk⟩ (by rintro i hi rfl;exact ha hi)
theorem Own.mod {b:Nat} {cs:Array Value} {t:TypeId} (h:Own w b cs t) (hm:Mod S w w') (hb:¬ S b):Own w' b cs t:=(hm.block b h.lt hb).trans h
theorem Zv (b o k:Nat):(⟨b,o,none⟩:Addr).add k=⟨b,o+k,none⟩:=by
 unfold Addr.add;split
 .subst_vars;rfl
 .rfl
/-- The string of bytes. -/
def fQ (l:List UInt8):ByteArray:=⟨l.toArray⟩
/-- 'string(b)' over a block known whole. -/
theorem kU {P:Program} {w:World} {b:Nat} {cs:Array Value} {t:TypeId} (h:Own w b cs t) (src dst e:TypeId) (off n cap:Nat) (l:List UInt8) (hs:P.underlying src=some (.slice e)) (he:P.underlying e=some (.int .u8)) (hd:P.underlying dst=some .string)
 (hn:l.length=n) (hc:∀ j (hj:j<l.length),cs[off+j]? = some (.int .u8 (l[j].toNat:Int))):
 (convert src dst (.slice (some ⟨b,off,none⟩) n cap)).run P w = .ok (.string (fQ l)) w:=by
 subst hn
 exact run_convert_bytes_back w src dst e _ cap l hs he hd (λj hj=>by rw [Zv];exact h.EB (hc j hj))
theorem Us (w:World) (a:Addr) (v:Value) (n:Nat):(w.drewN n).setCell a v=(w.setCell a v).drewN n:=rfl
theorem Xz (w:World) (o:Obj) (n:Nat):(w.drewN n).alloc o=(w.alloc o).drewN n:=rfl
/-! ### Strings as lists of bytes -/
theorem afw (s:ByteArray):∃ l,s=fQ l:=⟨s.data.toList,rfl⟩
theorem wj (l:List UInt8):(fQ l).data.toList=l:=rfl
@[go_sem] theorem wk (l:List UInt8):(fQ l).size=l.length:=rfl
@[go_sem] theorem afv (a:Array UInt8):(⟨a⟩:ByteArray)=fQ a.toList:=rfl
theorem ae9 {a b:List UInt8} (h:fQ a=fQ b):a=b:=by
 have:=congrArg (λs:ByteArray=>s.data.toList) h
 exact this
@[go_sem] theorem Zt (a b:List UInt8):fQ a ++ fQ b=fQ (a ++ b):=by
 apply ByteArray.ext
 simp [fQ,ByteArray.data_append]
theorem rS (l:List UInt8) (a b:Nat):(fQ l).extract a b=fQ ((l.drop a).take (b-a)):=by
 apply ByteArray.ext
 simp [fQ,ByteArray.data_extract]
attribute [go_sem] rS
@[go_sem high] theorem O3 (l:List UInt8) (a:Nat):(fQ l).extract a l.length=fQ (l.drop a):=by
 rw [rS,YV (by simp)]
@[go_sem] theorem ae8 (l:List UInt8) (i:Nat) (h:i<(fQ l).size):(fQ l)[i]'h=l[i]'h:=rfl
@[go_sem] theorem O4 (l:List UInt8) (i:Nat):(fQ l)[i]? = l[i]?:=by
 by_cases h:i<l.length
 .rw [getElem?_pos (fQ l) i h,List.getElem?_eq_getElem h];rfl
 .rw [getElem?_neg (fQ l) i h,List.getElem?_eq_none (by omega)]
@[go_sem] theorem Zu (l:List UInt8):(fQ l).toList=l:=ByteArray.toList_eq _
/-- Bytes as cells. -/
def cV (l:List UInt8):Array Value:=⟨l.map λb=>Value.int .u8 b.toNat⟩
theorem Je {l:List UInt8} {j:Nat} (h:j<l.length):(cV l)[j]? = some (.int .u8 (l[j].toNat:Int)):=by simp [cV,h]
theorem BA (l:List UInt8):(cV l).size=l.length:=by simp [cV]
theorem Db (w:World) (c d:Array Value) (t:TypeId):(w.alloc (.cells c t)).setRow w.heap.size d=w.alloc (.cells d t):=by
 unfold World.setRow World.alloc
 congr 1
 apply Array.ext_getElem?
 intro i
 simp only [QM,Qs]
 by_cases hi:i=w.heap.size
 .subst hi;simp
 .simp [hi]
  intro e;exact absurd e.symm hi
/-- 'copy(row[0:],s)' into a row of bytes that the call has just made. -/
theorem CV {P:Program} (w:World) (dT sT ty elem:TypeId) (dLen dCap:Nat) (l old:List UInt8) (t:TypeId)
 (hu:P.underlying dT=some (.slice elem)) (hs:(P.info? elem).map (·.size)=some 1) (hd:dLen=old.length):
 (Builtin.copy_ #[dT,sT] ty #[.slice (some ⟨w.heap.size,0,none⟩) dLen dCap,.string (fQ l)]).run P (w.alloc (.cells (cV old) t)) =
  .ok (goInt (min l.length dLen:Nat)) (w.alloc (.cells (cV (l.take dLen ++ old.drop l.length)) t)):=by
 have hg:(w.alloc (.cells (cV old) t)).heap[w.heap.size]? = some (.cells (cV old) t (0,0)):=Own.new _ _ _
 have hlen:((l.take dLen).map (λb:UInt8=>Value.int IntKind.u8 (b.toNat:Int))).length=min l.length dLen:=by simp [Nat.min_comm]
 have hst:=run_storeCells_at P w.heap.size 0 t ((l.take dLen).map (λb:UInt8=>Value.int IntKind.u8 (b.toNat:Int))) 0 (cV old) _ hg (by rw [hlen,BA];omega) (by
  intro v hv
  simp only [List.mem_map]at hv
  obtain ⟨b,_,rfl⟩:=hv
  rfl)
 have hmin:Nat.min l.length dLen=min l.length dLen:=rfl
 have htk:List.take (min l.length dLen) (List.map (λb:UInt8=>Value.int IntKind.u8 (b.toNat:Int)) l)=(l.take dLen).map (λb:UInt8=>Value.int IntKind.u8 (b.toNat:Int)):=by
  rw [<- List.map_take]
  congr 1
  rcases Nat.le_total l.length dLen with h|h
  .rw [QZ h,YV (YB _),YV h]
  .rw [Qp h]
 have hrow:(w.alloc (.cells (cV old) t)).setRow w.heap.size ((cV old).toList.take (0+0) ++ (l.take dLen).map (λb:UInt8=>Value.int IntKind.u8 (b.toNat:Int)) ++ (cV old).toList.drop (0+0+((l.take dLen).map (λb:UInt8=>Value.int IntKind.u8 (b.toNat:Int))).length)).toArray=w.alloc (.cells (cV (l.take dLen ++ old.drop l.length)) t):=by
  rw [hlen]
  have e:((cV old).toList.take (0+0) ++ (l.take dLen).map (λb:UInt8=>Value.int IntKind.u8 (b.toNat:Int)) ++ (cV old).toList.drop (0+0+min l.length dLen)).toArray=cV (l.take dLen ++ old.drop l.length):=by
   simp only [cV,Nat.add_zero,List.take_zero,List.nil_append,Nat.zero_add,List.map_append]
   rw [<- List.map_drop]
   congr 3
   rcases Nat.le_total l.length dLen with h|h
   .rw [QZ h]
   .rw [Qp h,WQ (by omega),WQ (by omega)]
  rw [e]
  exact Db w _ _ t
 cases hq:P.info? elem with
 | none=>simp [hq]at hs
 | some i=>
  simp [hq]at hs
  simp [Builtin.copy_,run_underlying hu,Builtin.lenOf,Builtin.firstCells,sizeOf,typeInfo,hq,hmin,wj,wk]
  rw [htk,hst,hrow]
  rfl
/-- 's[i]' where the byte is known. -/
theorem qR {P:Program} (w:World) (t:TypeId) (k:IntKind) (i:Int) (l:List UInt8) (x:UInt8) (ht:P.underlying t=some .string) (h0:0<=i) (hx:l[i.toNat]? = some x):
 (Instr.index t (.string (fQ l)) (.int k i)).run P w = .ok (.int .u8 (x.toNat:Int)) w:=by
 simp [Instr.index,asIntOf,run_underlying ht,h0,O4,hx]
theorem aaV (n:Nat):madeCells #[.int .u8 0] n=cV (List.replicate n 0):=by
 simp only [madeCells,cV]
 apply Array.ext
 .simp
 .intro i h1 h2
  simp [Nat.mod_one]
end Go.Wd
