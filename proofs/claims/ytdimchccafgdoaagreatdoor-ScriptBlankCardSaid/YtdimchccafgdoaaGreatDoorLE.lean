/- LE: a part of the evaluator,of its logic,or of the laws' walk in it. -/
import Derived.Test.YtdimchccafgdoaaGreatDoorLA
import Derived.Lib.Bytealg
import Derived.Lib.DecodeN
import Derived.Lib.AtoiAllCases
import Derived.Lib.ItoaNum
import Derived.Test.YtdimchccafgdoaaGreatDoorLC
import Derived.Test.YtdimchccafgdoaaGreatDoorLg
import Derived.ChangeArms
import Derived.Deep.Slices
import Derived.ChangeSame
import Derived.OpenShut
set_option linter.unusedVariables false
set_option linter.unusedSimpArgs false
set_option linter.unusedSectionVars false
section
namespace Go.Ev
open Go.RowKit
section
variable {P:Program}
theorem i64_vr {m:M} {n:Nat} (h:n<9223372036854775808):VR m (.int 3 n) (.int .i64 (n:Int)):=by
 simp only [VR]
 exact ⟨by rw [show kKind 3 = .i64 from rfl,toI_64' h],by show n<2 ^ 64;omega,by decide⟩
theorem i64_neg {m:M}:VR m (.int 3 18446744073709551615) (.int .i64 (-1)):=by
 simp only [VR]
 exact ⟨by rw [show kKind 3 = .i64 from rfl,show toI .i64 18446744073709551615 = -1 by decide],by decide,by decide⟩
theorem i32_vr {m:M} {n:Nat} (h:n<2147483648):VR m (.int 2 n) (.int .i32 (n:Int)):=by
 simp only [VR]
 refine ⟨?_,by show n<2 ^ 32;omega,by decide⟩
 rw [show kKind 2 = .i32 from rfl,toI_small .i32 n (by simp [half,IntKind.signed,IntKind.bits];omega)]
theorem findB_index (c:UInt8):∀ l:List UInt8,Go.Lib.indexByte l c=match findB c l with | some i=>(i:Int) | none => -1
 | []=>rfl
 | x :: l=>by
  rw [Go.Lib.indexByte,findB,findB_index c l]
  by_cases h:x=c
  ·rw [if_pos (by simp [h]),if_pos h]
   rfl
  ·rw [if_neg (by simp [h]),if_neg h]
   cases findB c l with
   | none=>rfl
   | some i=>
    have hne:((i:Int) == -1)=false:=by
     rw [beq_eq_false_iff_ne]
     omega
    show (if ((i:Int) == -1)=true then (-1:Int) else (i:Int)+1)=((i+1:Nat):Int)
    rw [hne]
    simp
theorem findB_lt {c:UInt8}:∀ {l:List UInt8} {i:Nat},findB c l=some i→i<l.length
 | x :: l,i,h=>by
  rw [findB] at h
  by_cases hx:x=c
  ·rw [if_pos hx] at h;cases h;simp
  ·rw [if_neg hx] at h
   cases h2:findB c l with
   | none=>rw [h2] at h;cases h
   | some j=>
    rw [h2] at h
    cases h
    have:=findB_lt h2
    simp;omega
structure IndexOK (P:Program) (f:FuncId):Prop where
 hfn:∃ fn c,P.funcs[f]? = some fn∧fn.body=some c∧(fn.name == "runtime.NumGoroutine")=false
 call:∀ (s:ByteArray) (w:World),Calls P f #[.string s, .string ⟨#[10]⟩] w fun e w'=>e = .returned (.int .i64 (Go.Lib.indexByte s.data.toList 10))∧w'=w
theorem IndexOK.nat {f:FuncId} (hj:IndexOK P f):NatOK P f nIndex:=fun args H k h=>by
 obtain ⟨fn,c,hf,hb,hn⟩:=hj.hfn
 unfold nIndex at h
 split at h
 ·rename_i l n l2 n2
  split at h
  ·rename_i hc
   obtain ⟨rfl,rfl,hl⟩:=hc
   refine ⟨_,H,CallF.of_calls hf hb hn fun base w0 rho w cargs hp hv => ?_,h⟩
   simp only [VRs] at hv
   obtain ⟨zc1,zr1,e1,v1,zc2,zr2,rfl,v2,rfl⟩:=hv
   simp only [VR] at v1 v2
   obtain ⟨rfl,v1⟩:=v1
   obtain ⟨rfl,_⟩:=v2
   have hc:cargs = #[.string ⟨(sbytes l n).toArray⟩, .string ⟨#[10]⟩]:=by apply Array.ext';exact e1
   subst hc
   refine ⟨.int .i64 (Go.Lib.indexByte (sbytes l n) 10), ?_,(hj.call _ w).mono ?_⟩
   ·rw [findB_index]
    cases hfb:findB 10 (sbytes l n) with
    | none=>exact i64_neg
    | some i=>
     have:=findB_lt hfb
     rw [sbytes_length] at this
     show VR _ (.int 3 i) (.int .i64 (i:Int))
     exact i64_vr (by omega)
   ·rintro e w' ⟨rfl,rfl⟩
    exact ⟨rfl,Below.refl _ _⟩
  ·exact (no_ne h).elim
 ·exact (no_ne h).elim
structure DecodeOK (P:Program) (f:FuncId) (dec:List UInt8→Nat × Nat):Prop where
 hfn:∃ fn c,P.funcs[f]? = some fn∧fn.body=some c∧(fn.name == "runtime.NumGoroutine")=false
 lt:∀ s,s≠[]→(dec s).1<2147483648∧(dec s).2≤s.length
 call:∀ (base:Nat) (w0:World) (rho:Nat→Option Nat) (H:Heap) (w:World) (s:ByteArray),PR P base w0 rho H w→0<s.size→s.size≤16777216→Calls P f #[.string s] w fun e w'=>e = .returned (.tuple #[.int .i32 ((dec s.data.toList).1:Int), .int .i64 ((dec s.data.toList).2:Int)])∧Below w.heap.size w w'
theorem DecodeOK.nat {f:FuncId} {dec:List UInt8→Nat × Nat} (hj:DecodeOK P f dec):NatOK P f (nDecode dec):=fun args H k h=>by
 obtain ⟨fn,c,hf,hb,hn⟩:=hj.hfn
 unfold nDecode at h
 split at h
 ·rename_i l n
  split at h
  ·rename_i hc
   refine ⟨_,H,CallF.of_calls hf hb hn fun base w0 rho w cargs hp hv => ?_,h⟩
   obtain ⟨rfl,hlt⟩:=vrs_one_str hv
   have hne:sbytes l n≠[]:=fun e=>by
    have:=congrArg List.length e
    rw [sbytes_length] at this
    simp at this
    omega
   obtain ⟨l1,l2⟩:=hj.lt _ hne
   rw [sbytes_length] at l2
   refine ⟨.tuple #[.int .i32 ((dec (sbytes l n)).1:Int), .int .i64 ((dec (sbytes l n)).2:Int)], ?_,hj.call base w0 rho H w ⟨(sbytes l n).toArray⟩ hp (by show 0 < (sbytes l n).toArray.size;rw [List.size_toArray,sbytes_length];omega) (by show (sbytes l n).toArray.size≤_;rw [List.size_toArray,sbytes_length];omega)⟩
   simp only [VR]
   exact ⟨_,rfl,_,_,rfl,i32_vr l1,_,_,rfl,i64_vr (by omega),rfl⟩
  ·exact (no_ne h).elim
 ·exact (no_ne h).elim
structure NumberOK (P:Program) (f:FuncId) (num:List UInt8→Nat):Prop where
 hfn:∃ fn c,P.funcs[f]? = some fn∧fn.body=some c∧(fn.name == "runtime.NumGoroutine")=false
 lt:∀ s,num s<18446744073709551616
 call:∀ (base:Nat) (w0:World) (rho:Nat→Option Nat) (H:Heap) (w:World) (s:ByteArray),PR P base w0 rho H w→s.size≤16777216→Calls P f #[.string s] w fun e w'=>e = .returned (.int .i64 (toI .i64 (num s.data.toList)))∧Below w.heap.size w w'
theorem NumberOK.nat {f:FuncId} {num:List UInt8→Nat} (hj:NumberOK P f num):NatOK P f (nNumber num):=fun args H k h=>by
 obtain ⟨fn,c,hf,hb,hn⟩:=hj.hfn
 unfold nNumber at h
 split at h
 ·rename_i l n
  split at h
  ·rename_i hc
   refine ⟨_,H,CallF.of_calls hf hb hn fun base w0 rho w cargs hp hv => ?_,h⟩
   obtain ⟨rfl,hlt⟩:=vrs_one_str hv
   refine ⟨.int .i64 (toI .i64 (num (sbytes l n))), ?_,hj.call base w0 rho H w ⟨(sbytes l n).toArray⟩ hp (by show (sbytes l n).toArray.size≤_;rw [List.size_toArray,sbytes_length];omega)⟩
   simp only [VR]
   exact ⟨rfl,hj.lt _,by decide⟩
  ·exact (no_ne h).elim
 ·exact (no_ne h).elim
structure ContainsOK (P:Program) (f g:FuncId):Prop where
 hfn:∃ fn c,P.funcs[f]? = some fn∧fn.body=some c∧(fn.name == "runtime.NumGoroutine")=false
 call:∀ (w:World) (s:ByteArray),s.size≤16777216→Calls P f #[.string s, .func (.func g) #[] #[]] w fun e w'=>e = .returned (.bool (s.data.toList.any oddB))∧Below w.heap.size w w'
theorem ContainsOK.nat {f:FuncId} (hj:ContainsOK P f 33):NatOK P f nContains:=fun args H k h=>by
 obtain ⟨fn,c,hf,hb,hn⟩:=hj.hfn
 unfold nContains at h
 split at h
 ·rename_i l n g
  split at h
  ·rename_i hc
   obtain ⟨rfl,hl⟩:=hc
   refine ⟨_,H,CallF.of_calls hf hb hn fun base w0 rho w cargs hp hv => ?_,h⟩
   simp only [VRs] at hv
   obtain ⟨zc1,zr1,e1,v1,zc2,zr2,rfl,v2,rfl⟩:=hv
   simp only [VR] at v1 v2
   obtain ⟨rfl,v1⟩:=v1
   obtain ⟨cs,rfl,v2⟩:=v2
   simp only [VRs] at v2
   have hcs:cs = #[]:=by apply Array.ext';exact v2
   subst hcs
   have hc:cargs = #[.string ⟨(sbytes l n).toArray⟩, .func (.func 33) #[] #[]]:=by apply Array.ext';exact e1
   subst hc
   refine ⟨.bool ((sbytes l n).any oddB),by simp only [VR],hj.call w ⟨(sbytes l n).toArray⟩ (by show (sbytes l n).toArray.size≤_;rw [List.size_toArray,sbytes_length];omega)⟩
  ·exact (no_ne h).elim
 ·exact (no_ne h).elim
end
end Go.Ev
end
section
namespace Go.Ev
open Go.RowKit
set_option maxHeartbeats 1000000 in
theorem decodeN_high {n b0 b1 b2 b3:Nat} (h0:128≤b0) (h0':b0<256) (hn:1≤n):128≤(Go.Lib.decodeN n b0 b1 b2 b3).1∧(Go.Lib.decodeN n b0 b1 b2 b3).1<2147483648∧1≤(Go.Lib.decodeN n b0 b1 b2 b3).2∧(Go.Lib.decodeN n b0 b1 b2 b3).2≤n∧(Go.Lib.decodeN n b0 b1 b2 b3).2≤4 ∧
  (2≤(Go.Lib.decodeN n b0 b1 b2 b3).2→128≤b1)∧(3≤(Go.Lib.decodeN n b0 b1 b2 b3).2→128≤b2)∧(4≤(Go.Lib.decodeN n b0 b1 b2 b3).2→128≤b3):=by
 unfold Go.Lib.decodeN
 rw [if_neg (by omega)]
 split
 ·split
  ·rename_i h h2
   exact ⟨by omega,by show b0 % 32 * 64+b1 % 64<_;omega,by simp,by simp;omega,by simp,fun _=>by omega,fun h=>by simp at h,fun h=>by simp at h⟩
  ·simp;omega
 ·split
  ·split
   ·rename_i h h2
    refine ⟨?_, ?_,by simp,by simp;omega,by simp,fun _=>by omega,fun _=>by omega,fun h=>by simp at h⟩
    ·show 128≤b0 % 16 * 4096+b1 % 64 * 64+b2 % 64;omega
    ·show b0 % 16 * 4096+b1 % 64 * 64+b2 % 64<_;omega
   ·simp;omega
  ·split
   ·split
    ·rename_i h h2
     refine ⟨?_, ?_,by simp,by simp;omega,by simp,fun _=>by omega,fun _=>by omega,fun _=>by omega⟩
     ·show 128≤b0 % 8 * 262144+b1 % 64 * 4096+b2 % 64 * 64+b3 % 64;omega
     ·show b0 % 8 * 262144+b1 % 64 * 4096+b2 % 64 * 64+b3 % 64<_;omega
    ·simp;omega
   ·simp;omega
def decL (l:List UInt8):Nat × Nat:=Go.Lib.decodeN l.length (l.getD 0 0).toNat (l.getD 1 0).toNat (l.getD 2 0).toNat (l.getD 3 0).toNat
theorem decL_ok:DecOK decL where
 low b l h:=by
  show Go.Lib.decodeN _ b.toNat _ _ _=_
  unfold Go.Lib.decodeN
  rw [if_pos h]
 rune b l h:=by
  have:=decodeN_high (n:=(b :: l).length) (b0:=b.toNat) (b1:=((b :: l).getD 1 0).toNat) (b2:=((b :: l).getD 2 0).toNat) (b3:=((b :: l).getD 3 0).toNat) h b.toNat_lt (by simp)
  exact ⟨this.1,this.2.1⟩
 size b l h:=by
  have:=decodeN_high (n:=(b :: l).length) (b0:=b.toNat) (b1:=((b :: l).getD 1 0).toNat) (b2:=((b :: l).getD 2 0).toNat) (b3:=((b :: l).getD 3 0).toNat) h b.toNat_lt (by simp)
  exact ⟨this.2.2.1,this.2.2.2.1⟩
 high b l h x hx:=by
  obtain ⟨_,_,_,h4,h5,h6,h7,h8⟩:=decodeN_high (n:=(b :: l).length) (b0:=b.toNat) (b1:=((b :: l).getD 1 0).toNat) (b2:=((b :: l).getD 2 0).toNat) (b3:=((b :: l).getD 3 0).toNat) h b.toNat_lt (by simp)
  obtain ⟨i,hi⟩:=List.mem_iff_getElem?.1 hx
  rw [List.getElem?_take] at hi
  split at hi
  ·rename_i hlt
   have hd:(decL (b :: l)).2=(Go.Lib.decodeN (b :: l).length b.toNat ((b :: l).getD 1 0).toNat ((b :: l).getD 2 0).toNat ((b :: l).getD 3 0).toNat).2:=rfl
   rw [hd] at hlt
   have hg:∀ j,(b :: l)[j]? = some x→((b :: l).getD j 0)=x:=fun j hj=>by rw [List.getD_eq_getElem?_getD,hj];rfl
   match i,hi,hlt with
   | 0,hi,_=>have:=hg 0 hi;simp at this;rw [← this];exact h
   | 1,hi,hlt=>rw [← hg 1 hi];exact h6 (by omega)
   | 2,hi,hlt=>rw [← hg 2 hi];exact h7 (by omega)
   | 3,hi,hlt=>rw [← hg 3 hi];exact h8 (by omega)
   | i+4,hi,hlt=>omega
  ·cases hi
end Go.Ev
end
section
namespace Go.Ev
open Go.RowKit
def numL (s:List UInt8):Nat:=match Go.Lib.atoiAll s with
 | .ok v=>if Go.Lib.itoa v=s then (v % 18446744073709551616).toNat else 18446744073709551615
 | _=>18446744073709551615
theorem decD_itoa {n:Nat} (h:n<10000):Go.Lib.itoa (n:Int)=decD n:=by
 unfold Go.Lib.itoa
 rw [if_neg (by omega),Int.toNat_natCast]
 unfold decD
 split
 ·rename_i h1
  rw [Go.Lib.decDigits,dif_pos h1]
 ·rename_i h1
  rw [Go.Lib.decDigits,dif_neg h1]
  split
  ·rename_i h2
   rw [Go.Lib.decDigits,dif_pos (by omega)]
   rfl
  ·rename_i h2
   rw [Go.Lib.decDigits,dif_neg (by omega)]
   have e1:n / 10 / 10=n / 100:=by omega
   have e2:n / 100 / 10=n / 1000:=by omega
   rw [e1]
   split
   ·rename_i h3
    rw [Go.Lib.decDigits,dif_pos (by omega)]
    rfl
   ·rename_i h3
    rw [Go.Lib.decDigits,dif_neg (by omega),e2,Go.Lib.decDigits,dif_pos (by omega)]
    rfl
def okAt (n:Nat):Bool:=match Go.Lib.atoiAll (decD n) with
 | .ok v=>decide (v=(n:Int))
 | _=>false
def okTo:Nat→Bool
 | 0=>true
 | n+1=>okAt n && okTo n
theorem okTo_all:∀ {m n:Nat},okTo m=true→n<m→okAt n=true
 | m+1,n,h,hn=>by
  simp only [okTo,Bool.and_eq_true] at h
  rcases Nat.lt_or_ge n m with h1 | h1
  ·exact okTo_all h.2 h1
  ·rw [show n=m by omega];exact h.1
def okFrom (a:Nat):Nat→Bool
 | 0=>true
 | n+1=>okAt (a+n) && okFrom a n
theorem okFrom_all {a:Nat}:∀ {m n:Nat},okFrom a m=true→n<m→okAt (a+n)=true
 | m+1,n,h,hn=>by
  simp only [okFrom,Bool.and_eq_true] at h
  rcases Nat.lt_or_ge n m with h1 | h1
  ·exact okFrom_all h.2 h1
  ·rw [show n=m by omega];exact h.1
def okAll:Nat→Bool
 | 0=>true
 | n+1=>okFrom (100 * n) 100 && okAll n
theorem okAll_all:∀ {m n:Nat},okAll m=true→n<100 * m→okAt n=true
 | m+1,n,h,hn=>by
  simp only [okAll,Bool.and_eq_true] at h
  rcases Nat.lt_or_ge n (100 * m) with h1 | h1
  ·exact okAll_all h.2 h1
  ·have:=okFrom_all (n:=n-100 * m) h.1 (by omega)
   rwa [show 100 * m+(n-100 * m)=n by omega] at this
set_option maxRecDepth 100000 in
theorem ok100:okAll 100=true:=by decide +kernel
theorem atoi_decD {n:Nat} (h:n<10000):Go.Lib.atoiAll (decD n) = .ok (n:Int):=by
 have h1:=okAll_all ok100 (n:=n) (by omega)
 unfold okAt at h1
 split at h1
 ·rename_i v hv
  rw [hv,of_decide_eq_true h1]
 ·cases h1
theorem numL_ok:NumOK numL where
 lt s:=by
  unfold numL
  split
  ·split
   ·omega
   ·omega
  ·omega
 is s n hn:=by
  constructor
  ·intro h
   unfold numL at h
   split at h
   ·rename_i v hv
    split at h
    ·rename_i hi
     obtain ⟨b1,b2⟩:=Go.Lib.atoiAll_bounds hv
     have hv':v=(n:Int):=by omega
     rw [← hi,hv',decD_itoa hn]
    ·omega
   ·omega
  ·intro h
   subst h
   unfold numL
   rw [atoi_decD hn]
   simp only [decD_itoa hn,if_true]
   omega
end Go.Ev
end
section
namespace Go.Ev
open Go.RowKit
theorem stepsOf_at:∀ {l:List V} {ss:List Stp},stepsOf l=some ss→l.length=ss.length * 4 ∧ ∀ j s,ss[j]? = some s→l[j * 4]? = some (.int 3 s.k)∧l[j * 4+1]? = some (.int 3 s.a)∧l[j * 4+2]? = some (.int 3 s.b) ∧ ∃ ln n,l[j * 4+3]? = some (.str ln n)∧s.d=sbytes ln n:=by
 intro l
 induction l using stepsOf.induct with
 | case1=>
  intro ss h
  cases h
  exact ⟨rfl,fun j s hj=>by simp at hj⟩
 | case2 k a b ln n r ih=>
  intro ss h
  rw [stepsOf] at h
  obtain ⟨ss',h1,rfl⟩:=Option.map_eq_some_iff.1 h
  obtain ⟨h2,h3⟩:=ih h1
  refine ⟨by simp only [List.length_cons,h2];omega,fun j s hj => ?_⟩
  cases j with
  | zero=>
   cases hj
   exact ⟨rfl,rfl,rfl,ln,n,rfl,rfl⟩
  | succ j=>
   have:=h3 j s (by simpa using hj)
   rw [show (j+1) * 4=j * 4+4 by omega]
   exact this
 | case3 l h1 h2=>
  intro ss h
  rw [stepsOf] at h
  ·cases h
  ·exact h1
  ·exact h2
structure StepsIn (w:World) (c o:Nat) (ss:List Stp):Prop where
 k:∀ j s,ss[j]? = some s→w.cell? ⟨c,o+j * 4,none⟩=some (.int .i64 (toI .i64 s.k))∧s.k<18446744073709551616
 a:∀ j s,ss[j]? = some s→w.cell? ⟨c,o+j * 4+1,none⟩=some (.int .i64 (toI .i64 s.a))∧s.a<18446744073709551616
 b:∀ j s,ss[j]? = some s→w.cell? ⟨c,o+j * 4+2,none⟩=some (.int .i64 (toI .i64 s.b))∧s.b<18446744073709551616
 d:∀ j s,ss[j]? = some s→w.cell? ⟨c,o+j * 4+3,none⟩=some (.string ⟨s.d.toArray⟩)∧s.d.length<9223372036854775808
structure PrintOK (P:Program) (f:FuncId):Prop where
 hfn:∃ fn c,P.funcs[f]? = some fn∧fn.body=some c∧(fn.name == "runtime.NumGoroutine")=false
 call:∀ (base:Nat) (w0:World) (rho:Nat→Option Nat) (H:Heap) (w:World) (a:Option Addr) (cap:Nat) (ss:List Stp),PR P base w0 rho H w→ss.length≤1000000→(ss=[] ∨ ∃ c o,a=some ⟨c,o,none⟩∧c<w.heap.size∧ss.length≤cap∧StepsIn w c o ss) →
  Calls P f #[.slice a ss.length cap] w fun e w'=>e = .returned (.tuple #[.string ⟨(printP ss).1.toArray⟩, .int .i64 ((printP ss).2:Int)])∧Below w.heap.size w w'
theorem printP_code (ss:List Stp):(printP ss).2<9223372036854775808:=by
 unfold printP
 split
 ·exact (by decide:3<9223372036854775808)
 ·split
  ·exact (by decide:0<9223372036854775808)
  ·exact (by decide:2<9223372036854775808)
variable {P:Program}
theorem pr_vr {m:M} (ss:List Stp):VR m (.tup [tv (printP ss).1, .int 3 (printP ss).2]) (.tuple #[.string ⟨(printP ss).1.toArray⟩, .int .i64 ((printP ss).2:Int)]):=by
 simp only [VR]
 refine ⟨_,rfl,_,_,rfl, ?_,_,_,rfl,i64_vr (printP_code ss),rfl⟩
 simp only [tv,VR,sbytes_enc]
 exact ⟨trivial,enc_lt _⟩
theorem PrintOK.nat {f:FuncId} (hj:PrintOK P f):NatOK P f nPrint:=fun args H k h=>by
 obtain ⟨fn,c,hf,hb,hn⟩:=hj.hfn
 unfold nPrint at h
 split at h
 ·rename_i x
  have empty:∀ (x:V),(∀ m cv,VR m x cv → ∃ a c,cv = .slice a 0 c)→CallF P f [x] H (.tup [.str 0 0, .int 3 0]) H:=fun x hx=>
   CallF.of_calls hf hb hn fun base w0 rho w cargs hp hv=>by
    simp only [VRs] at hv
    obtain ⟨zc1,zr1,e1,v1,rfl⟩:=hv
    obtain ⟨a,cp,rfl⟩:=hx _ _ v1
    have hc:cargs = #[.slice a 0 cp]:=by apply Array.ext';exact e1
    subst hc
    exact ⟨_,pr_vr [],hj.call base w0 rho H w a cp [] hp (by simp) (Or.inl rfl)⟩
  rcases vSliceN_ok h with ⟨b,o,n,cp,sz,rfl,h2⟩ | ⟨rfl,h2⟩
  ·split at h2
   ·rename_i hn0
    subst hn0
    exact ⟨_,H,empty _ (fun m cv hv=>by simp only [VR] at hv;obtain ⟨c,cap,o',sp,rfl,_⟩:=hv;exact ⟨_,_,rfl⟩),h2⟩
   ·rename_i hn0
    split at h2
    ·rename_i hle
     obtain ⟨row,h7,h8,h9,h10⟩:=rdN_ok h2
     split at h10
     ·rename_i ss hss
      obtain ⟨hd,h10⟩:(∀ s ∈ ss,s.d.length<9223372036854775808)∧k (.tup [tv (printP ss).1, .int 3 (printP ss).2]) H=1:=by
       split at h10
       ·rename_i hd
        exact ⟨fun s hs=>of_decide_eq_true (List.all_eq_true.1 hd s hs),h10⟩
       ·exact (no_ne h10).elim
      obtain ⟨g1,g2⟩:=stepsOf_at hss
      have hlen:ss.length=n:=by rw [List.length_take,List.length_drop] at g1;omega
      refine ⟨_,H,CallF.of_calls hf hb hn fun base w0 rho w cargs hp hv => ?_,h10⟩
      simp only [VRs] at hv
      obtain ⟨zc1,zr1,e1,v1,rfl⟩:=hv
      simp only [VR] at v1
      obtain ⟨c,cap,o',sp,rfl,hm,hcap,hcp,ho⟩:=v1
      obtain ⟨rfl,rfl⟩:o'=o∧sp=none:=by
       rcases ho with h | h
       ·exact h
       ·omega
      have hc:cargs = #[.slice (some ⟨c,o',none⟩) n cap]:=by apply Array.ext';exact e1
      subst hc
      have hrho:=hp.rho_rd hm h7
      have cell:∀ (i:Nat) (u:V),((row.drop o').take (n * 4))[i]? = some u → ∃ cv,w.cell? ⟨c,o'+i,none⟩=some cv∧VR (mu rho H w) u cv:=fun i u hi=>by
       have hi':=hi
       rw [List.getElem?_take] at hi'
       split at hi'
       ·rw [List.getElem?_drop] at hi'
        obtain ⟨cv,q1,q2,_⟩:=hp.rcell hrho h7 hi' (h9.imp (fun h=>h u (List.mem_of_getElem? hi)) id)
        exact ⟨cv,q1,q2⟩
       ·cases hi'
      have hst:StepsIn w c o' ss:=by
       refine ⟨fun j s hs => ?_,fun j s hs => ?_,fun j s hs => ?_,fun j s hs => ?_⟩
       ·obtain ⟨cv,q1,q2⟩:=cell _ _ (g2 j s hs).1
        simp only [VR] at q2
        exact ⟨by rw [q1,q2.1];rfl,q2.2.1⟩
       ·obtain ⟨cv,q1,q2⟩:=cell _ _ (g2 j s hs).2.1
        simp only [VR] at q2
        exact ⟨by rw [Nat.add_assoc,q1,q2.1];rfl,q2.2.1⟩
       ·obtain ⟨cv,q1,q2⟩:=cell _ _ (g2 j s hs).2.2.1
        simp only [VR] at q2
        exact ⟨by rw [Nat.add_assoc,q1,q2.1];rfl,q2.2.1⟩
       ·obtain ⟨ln,nn,zr1,zr2⟩:=(g2 j s hs).2.2.2
        obtain ⟨cv,q1,q2⟩:=cell _ _ zr1
        simp only [VR] at q2
        exact ⟨by rw [Nat.add_assoc,q1,q2.1,zr2],hd s (List.mem_of_getElem? hs)⟩
      rw [← hlen]
      exact ⟨_,pr_vr ss,hj.call base w0 rho H w _ cap ss hp (by omega) (Or.inr ⟨c,o',rfl,(hp.dom _ _ hrho).2.2.1,by omega,hst⟩)⟩
     ·exact (no_ne h10).elim
    ·exact (no_ne h2).elim
  ·exact ⟨_,H,empty _ (fun m cv hv=>by simp only [VR] at hv;exact ⟨_,_,hv⟩),h2⟩
 ·exact (no_ne h).elim
structure As0OK (P:Program) (f:FuncId):Prop where
 hfn:∃ fn c,P.funcs[f]? = some fn∧fn.body=some c∧(fn.name == "runtime.NumGoroutine")=false
 call:∀ (w:World) (x:Value),Calls P f #[.nilIface,x] w fun e w'=>e = .returned (.bool false)∧w'=w
theorem As0OK.nat {f:FuncId} (hj:As0OK P f):NatOK P f nAs0:=fun args H k h=>by
 obtain ⟨fn,c,hf,hb,hn⟩:=hj.hfn
 unfold nAs0 at h
 split at h
 ·rename_i x
  refine ⟨_,H,CallF.of_calls hf hb hn fun base w0 rho w cargs hp hv => ?_,h⟩
  simp only [VRs] at hv
  obtain ⟨zc1,zr1,e1,v1,zc2,zr2,rfl,v2,rfl⟩:=hv
  simp only [VR] at v1
  subst v1
  have hc:cargs = #[.nilIface,zc2]:=by apply Array.ext';exact e1
  subst hc
  refine ⟨.bool false,by simp only [VR],(hj.call w zc2).mono ?_⟩
  rintro e w' ⟨rfl,rfl⟩
  exact ⟨rfl,Below.refl _ _⟩
 ·exact (no_ne h).elim
structure WorksOK (P:Program) (f:FuncId):Prop where
 hfn:∃ fn c,P.funcs[f]? = some fn∧fn.body=some c∧(fn.name == "runtime.NumGoroutine")=false
 call:∀ (base:Nat) (w0:World) (rho:Nat→Option Nat) (H:Heap) (w:World),PR P base w0 rho H w→Calls P f #[] w fun e w'=>e = .returned (.bool true)∧Below w.heap.size w w'
end Go.Ev
end
section
namespace Go.Ev
open Go.RowKit
section
variable {P:Program} {t:Nat→Option FnE} {dec:List UInt8→Nat × Nat} {num:List UInt8→Nat}
theorem sem (hm:P.follows .mixedOrders=true) (ht:TabOK P t) {fuel depth:Nat} {f:FuncId} {args:List V} {cargs:Array Value} {base:Nat} {w0:World} {rho:Nat→Option Nat} {H:Heap} {w:World} (hp:PR P base w0 rho H w) (ha:VRs (mu rho H w) args cargs.toList)
  {v:V} {H':Heap} (h:∀ k:K,callP (evP (compRC P) t fuel depth) (.func (2 * f) []) args H k=k v H') :
  Calls P f cargs w fun e w' => ∃ cv,e = .returned cv∧Left P base w0 rho H w v H' cv w':=by
 obtain ⟨v2,H2,h1,h2⟩:=evP_ok hm ht fuel depth (.func (2 * f) []) args H (fun v2 H2 => @ite _ (v2=v∧H2=H') (Classical.propDecidable _) 1 0) (by
  have:=h (fun v2 H2 => @ite _ (v2=v∧H2=H') (Classical.propDecidable _) 1 0)
  rw [if_pos ⟨rfl,rfl⟩] at this
  exact this)
 have h3:v2=v∧H2=H':=by
  by_cases hh:v2=v∧H2=H'
  ·exact hh
  ·simp only [if_neg hh] at h2
   exact absurd h2 (by decide)
 obtain ⟨rfl,rfl⟩:=h3
 have h4:=h1.2 f [] rfl
 rw [List.append_nil] at h4
 obtain ⟨_,h5⟩:=h4 base w0 rho w cargs hp ha
 exact CallsIn.calls (h5.mono fun e w' he=>he) fun k=>by simp [Fence.room]
theorem i64_any {m:M} {n:Nat} (h:n<18446744073709551616):VR m (.int 3 n) (.int .i64 (toI .i64 n)):=by
 simp only [VR]
 exact ⟨rfl,h,by decide⟩
theorem str_vr {m:M} (s:List UInt8):VR m (tv s) (.string ⟨s.toArray⟩):=by
 simp only [tv,VR,sbytes_enc]
 exact ⟨trivial,enc_lt _⟩
theorem bool_vr {m:M} (b:Bool):VR m (.bool b) (.bool b):=by simp only [VR]
def kval (j:Nat) (r:KRow):Array Value := #[.int .i64 (j:Int), .string ⟨r.w.toArray⟩, .int .i64 (toI .i64 r.a), .int .i64 (toI .i64 r.b), .bool r.d]
def sval (s:Stp):Array Value := #[.int .i64 (toI .i64 s.k), .int .i64 (toI .i64 s.a), .int .i64 (toI .i64 s.b), .string ⟨s.d.toArray⟩]
theorem kindsT_lt {j:Nat} {r:KRow} (h:kindsT[j]? = some r):j<12∧r.a<18446744073709551616∧r.b<18446744073709551616:=by
 have hj:j<12:=(List.getElem?_eq_some_iff.1 h).1
 have:∀ r ∈ kindsT,r.a<18446744073709551616∧r.b<18446744073709551616:=by decide
 exact ⟨hj,this r (List.mem_of_getElem? h)⟩
theorem kval_vr {m:M} {j:Nat} {r:KRow} (h:kindsT[j]? = some r):VR m (.agg (r.cells j)) (.agg (kval j r)):=by
 obtain ⟨h1,h2,h3⟩:=kindsT_lt h
 simp only [VR]
 exact ⟨_,rfl,_,_,rfl,i64_vr (by omega),_,_,rfl,str_vr _,_,_,rfl,i64_any h2,_,_,rfl,i64_any h3,_,_,rfl,bool_vr _,rfl⟩
theorem sval_vr {m:M} {s:Stp} (h:StOK s):VR m (.agg s.cells) (.agg (sval s)):=by
 simp only [VR]
 exact ⟨_,rfl,_,_,rfl,i64_any h.k,_,_,rfl,i64_any h.a,_,_,rfl,i64_any h.b,_,_,rfl,str_vr _,rfl⟩
theorem H0_wf:Heap.wf H0:=fun b h=>absurd h (Nat.not_lt_zero b)
theorem may_sem (hm:P.follows .mixedOrders=true) (ht:TabOK P t) (T:TCode t) (S:SNat t dec num) {w:World} (hg:GQ w ∧ ∀ c,GB c→c<w.heap.size) {j:Nat} {r:KRow} {s:Stp} (hr:kindsT[j]? = some r) (hs:StOK s) :
  Calls P 17 #[.agg (kval j r), .agg (sval s)] w fun e w'=>e = .returned (.bool (mayB r s))∧Below w.heap.size w w':=by
 obtain ⟨h1,h2,h3⟩:=kindsT_lt hr
 obtain ⟨G,f,z⟩:=may_call (cp:=compRC P) (fuel:=100) (H:=H0) (i:=j) T S H0_wf h2 h3 hs.a hs.b hs.d
 refine (sem hm ht (PR.empty w hg) (args:=[.agg (r.cells j), .agg s.cells]) ?_ (fun k=>z 0 k)).mono ?_
 ·simp only [VRs]
  exact ⟨_,_,rfl,kval_vr hr,_,_,rfl,sval_vr hs,rfl⟩
 ·rintro e w' ⟨cv,rfl,rho',h6,h7,h8⟩
  simp only [VR] at h6
  subst h6
  exact ⟨rfl,h7.below⟩
def KindsIn (w:World) (g:Nat):Prop:=∀ j r,kindsT[j]? = some r→w.cell? ⟨g,j * 5,none⟩=some (.int .i64 (j:Int))∧w.cell? ⟨g,j * 5+1,none⟩=some (.string ⟨r.w.toArray⟩)∧w.cell? ⟨g,j * 5+2,none⟩=some (.int .i64 (toI .i64 r.a)) ∧
 w.cell? ⟨g,j * 5+3,none⟩=some (.int .i64 (toI .i64 r.b))∧w.cell? ⟨g,j * 5+4,none⟩=some (.bool r.d)
theorem kRow_at:∀ {j:Nat} {r:KRow},kindsT[j]? = some r→(kRow 12)[j * 5]? = some (.int 3 j)∧(kRow 12)[j * 5+1]? = some (tv r.w)∧(kRow 12)[j * 5+2]? = some (.int 3 r.a)∧(kRow 12)[j * 5+3]? = some (.int 3 r.b)∧(kRow 12)[j * 5+4]? = some (.bool r.d):=by
 intro j r h
 obtain ⟨hj,_⟩:=kindsT_lt h
 match j,hj,h with
 | 0,_,h=>cases h;exact ⟨rfl,rfl,rfl,rfl,rfl⟩
 | 1,_,h=>cases h;exact ⟨rfl,rfl,rfl,rfl,rfl⟩
 | 2,_,h=>cases h;exact ⟨rfl,rfl,rfl,rfl,rfl⟩
 | 3,_,h=>cases h;exact ⟨rfl,rfl,rfl,rfl,rfl⟩
 | 4,_,h=>cases h;exact ⟨rfl,rfl,rfl,rfl,rfl⟩
 | 5,_,h=>cases h;exact ⟨rfl,rfl,rfl,rfl,rfl⟩
 | 6,_,h=>cases h;exact ⟨rfl,rfl,rfl,rfl,rfl⟩
 | 7,_,h=>cases h;exact ⟨rfl,rfl,rfl,rfl,rfl⟩
 | 8,_,h=>cases h;exact ⟨rfl,rfl,rfl,rfl,rfl⟩
 | 9,_,h=>cases h;exact ⟨rfl,rfl,rfl,rfl,rfl⟩
 | 10,_,h=>cases h;exact ⟨rfl,rfl,rfl,rfl,rfl⟩
 | 11,_,h=>cases h;exact ⟨rfl,rfl,rfl,rfl,rfl⟩
 | n+12,hj,_=>omega
theorem kinds_sem (hm:P.follows .mixedOrders=true) (ht:TabOK P t) (T:TCode t) {w:World} (hg:GQ w ∧ ∀ c,GB c→c<w.heap.size) :
  Calls P 16 #[] w fun e w' => ∃ mp g cap,e = .returned (.tuple #[mp, .slice (some ⟨g,0,none⟩) 12 cap])∧12≤cap∧w.heap.size≤g∧g<w'.heap.size∧KindsIn w' g∧Below w.heap.size w w':=by
 obtain ⟨G,m,b,c,s,f,hm1,hb1,hm2,hm3,hb2,hb3,hne,z⟩:=kinds_call (cp:=compRC P) (fuel:=200) (H:=H0) T H0_wf (by decide)
 refine (sem hm ht (PR.empty w hg) (args:=[]) (by simp only [VRs]) (fun k=>z 0 k)).mono ?_
 rintro e w' ⟨cv,rfl,rho',h6,h7,h8⟩
 simp only [VR,VRs] at h6
 obtain ⟨cs,rfl,zc1,zr1,e1,⟨cm,rfl,_⟩,zc2,zr2,rfl,⟨g,cap,o',sp,rfl,hmu,hcap,_,ho⟩,rfl⟩:=h6
 obtain ⟨rfl,rfl⟩:o'=0∧sp=none:=by
  rcases ho with h | h
  ·exact h
  ·omega
 have hcs:cs = #[.map (some cm), .slice (some ⟨g,0,none⟩) 12 cap]:=by apply Array.ext';exact e1
 subst hcs
 have hrd:rowRd (G.get b)=some (kRow 12):=by rw [hb1];rfl
 have hrho:=h7.rho_rd hmu hrd
 obtain ⟨_,d2,d3,_⟩:=h7.dom _ _ hrho
 have cell:∀ (i:Nat) (v:V),(kRow 12)[i]? = some v → ∃ cv,w'.cell? ⟨g,i,none⟩=some cv∧VR (mu rho' G w') v cv:=fun i v hi=>by
  obtain ⟨cv,q1,q2,_⟩:=h7.rcell hrho hrd hi (Or.inr (by rw [hb1];rfl))
  exact ⟨cv,q1,q2⟩
 refine ⟨_,g,cap,rfl,hcap,d2,d3,fun j r hr => ?_,h7.below⟩
 obtain ⟨a0,a1,a2,a3,a4⟩:=kRow_at hr
 obtain ⟨hj,_⟩:=kindsT_lt hr
 obtain ⟨v0,x0,y0⟩:=cell _ _ a0
 obtain ⟨v1,x1,y1⟩:=cell _ _ a1
 obtain ⟨v2,x2,y2⟩:=cell _ _ a2
 obtain ⟨v3,x3,y3⟩:=cell _ _ a3
 obtain ⟨v4,x4,y4⟩:=cell _ _ a4
 simp only [VR] at y0 y2 y3 y4
 simp only [tv,VR,sbytes_enc] at y1
 refine ⟨?_, ?_, ?_, ?_, ?_⟩
 ·rw [x0,y0.1,show kKind 3 = .i64 from rfl,toI_64' (by omega)]
 ·rw [x1,y1.1]
 ·rw [x2,y2.1];rfl
 ·rw [x3,y3.1];rfl
 ·rw [x4,y4]
end
end Go.Ev
end
section
namespace Go.Ev
open Go.ChangeShapes Go.WideShapes Go.RowKit
theorem vOf_int {N:Nat} {k:IntKind} {n:Int} (h:(Lit.int k n).wf=true):vOf N (.int k n) = .int (kOf k) (n % (2 ^ k.bits:Nat)).toNat:=by
 have hw:k.wrap n=n:=by
  unfold Lit.wf at h
  simp only [Bool.and_eq_true,decide_eq_true_eq] at h
  obtain ⟨h1,h2⟩:=h
  cases k <;> simp [IntKind.min,IntKind.max,IntKind.bits,IntKind.signed] at h1 h2 <;> simp [IntKind.wrap,IntKind.bits,IntKind.signed] <;> omega
 unfold vOf constV1
 simp [hw]
theorem u8_lt {n:Int}:(n % (2 ^ IntKind.u8.bits:Nat)).toNat<256:=by
 have h1:(0:Int)≤n % (2 ^ IntKind.u8.bits:Nat):=Int.emod_nonneg _ (by simp [IntKind.bits])
 have h2:n % (2 ^ IntKind.u8.bits:Nat) < (2 ^ IntKind.u8.bits:Nat):=Int.emod_lt_of_pos _ (by simp [IntKind.bits])
 simp only [IntKind.bits] at h1 h2 ⊢
 omega
theorem u16_lt {n:Int}:(n % (2 ^ IntKind.u16.bits:Nat)).toNat<65536:=by
 have h1:(0:Int)≤n % (2 ^ IntKind.u16.bits:Nat):=Int.emod_nonneg _ (by simp [IntKind.bits])
 have h2:n % (2 ^ IntKind.u16.bits:Nat) < (2 ^ IntKind.u16.bits:Nat):=Int.emod_lt_of_pos _ (by simp [IntKind.bits])
 simp only [IntKind.bits] at h1 h2 ⊢
 omega
section
variable {P:Program} {w:World}
theorem called_cps (hm:P.follows .mixedOrders=true) {t:Nat→Option FnE} (ht:TabOK P t) {fuel depth:Nat} {f:FuncId} {args:List V} {cargs:Array Value} {w:World} (ha:VRs (mu (rhoOf w) (Ev.adopt w) w) args cargs.toList)
  (h:∀ (k:K) (x:R),(∀ H',Fresh (Ev.adopt w) H'→k (.bool true) H'=x)→callP (evP (compRC P) t fuel depth) (.func (2 * f) []) args (Ev.adopt w) k=x) (hg:GQ w ∧ ∀ c,GB c→c<w.heap.size:=by exact Gno) :
  Calls P f cargs w fun e w'=>e = .returned (.bool true)∧Below w.heap.size w w':=by
 obtain ⟨v,H2,h1,h2⟩:=evP_ok hm ht fuel depth (.func (2 * f) []) args (Ev.adopt w) (fun v H2 => @ite _ (v = .bool true∧w.heap.size+1≤H2.wlo) (Classical.propDecidable _) 1 0) (h _ 1 fun H' hF=>by
  rw [if_pos]
  exact ⟨rfl,hF.lo _ (by rw [adopt_wlo];exact Nat.le_refl _) (by rw [adopt_n];exact Nat.le_refl _)⟩)
 have h3:v = .bool true∧w.heap.size+1≤H2.wlo:=by
  by_cases hh:v = .bool true∧w.heap.size+1≤H2.wlo
  ·exact hh
  ·simp only [if_neg hh] at h2
   exact absurd h2 (by decide)
 obtain ⟨rfl,hlo⟩:=h3
 have h4:=h1.2 f [] rfl
 rw [List.append_nil] at h4
 obtain ⟨_,h5⟩:=h4 0 w (rhoOf w) w cargs (PR.adopt w hg) ha
 refine CallsIn.calls (h5.mono fun e w' he => ?_) fun k=>by simp [Fence.room]
 obtain ⟨cv,rfl,rho',h6,h7,h8⟩:=he
 simp only [VR] at h6
 subst h6
 refine ⟨rfl,h7.below.os,h7.below.tape,h7.below.output,h7.below.size,fun k hk=>h8.fr k hk fun b hb => ?_⟩
 have:=(PR.adopt (P:=P) w hg).lt b k hb
 rw [adopt_n] at this
 omega
end
end Go.Ev
end
section
namespace Go.Ev
open Go.Deep Go.ChangeShapes Go.WideShapes
theorem cell_view {w:World} {b i:Nat} {cv:Value} (h:w.cell? ⟨b,i,none⟩=some cv) (hf:w.frozen? ⟨b,i,none⟩=false) (hgb:¬ GB b):∃ row,gOf w b = .view row∧b<w.heap.size∧row[i]? = some (vOf w.heap.size cv):=by
 unfold World.cell? at h
 unfold World.frozen? at hf
 unfold gOf
 rw [if_neg hgb]
 split at h
 ·rename_i c e fr hc
  rw [hc] at hf ⊢
  simp only [Option.isSome_none,Bool.false_eq_true,if_false] at h
  refine ⟨_,rfl,(Array.getElem?_eq_some_iff.1 hc).1,rowView_get h ?_⟩
  simpa using hf
 ·cases h
theorem vOf_bool {N:Nat} {b:Bool}:vOf N (.bool b) = .bool b:=rfl
theorem vOf_slice {N:Nat} {b o l cap:Nat} (h:l≤cap) (hb:b<N):vOf N (.slice (some ⟨b,o,none⟩) l cap) = .slice b o l (cap+1) 0:=by
 show (if l≤cap then _ else _)=_
 rw [if_pos h,if_pos ⟨rfl,hb⟩]
theorem vOf_none {N:Nat} {a:Addr}:NoneV (vOf N (.slice (some a) 0 0))∧(vOf N (.slice (some a) 0 0)).one=true:=by
 have:vOf N (.slice (some a) 0 0)=if a.spot=none∧a.block<N then .slice a.block a.off 0 (0+1) 0 else .slice N a.off 0 1 0:=by
  show (if 0≤0 then (if a.spot=none∧a.block<N then V.slice a.block a.off 0 (0+1) 0 else if 0=0 then V.slice N a.off 0 1 0 else V.tup []) else V.tup [])=_
  rw [if_pos (Nat.le_refl _),if_pos rfl]
 rw [this]
 split
 ·exact ⟨Or.inr ⟨_,_,_,_,rfl⟩,rfl⟩
 ·exact ⟨Or.inr ⟨_,_,_,_,rfl⟩,rfl⟩
section
variable {H:Type} {enc:TypeId × Value→H} {P:Program} {w:World}
theorem slice_seen {t e:TypeId} {z fuel:Nat} {v:Value} {x:DataW H × List MemPlace} (ht:P.underlying t=some (.slice e)) (hz:P.cellsOf e=z) (hz0:0<z) (h:DataW.trod enc P w 0 (fun _=>true) true fuel t [v]=some x) (hnf:w.noneFrozen x.2)
  (hG:∀ (b o n:Nat) (cs:List Value) (y:DataW H × List MemPlace),GB b→cs.length=z→(∀ j cv,cs[j]? = some cv→w.cell? ⟨b,o+j,none⟩=some cv)→DataW.trod enc P w 0 (fun _=>true) true n e cs=some y→False) :
  (vOf w.heap.size v).one=true∧((NoneV (vOf w.heap.size v)) ∨ ∃ b o len c row,0<len∧len≤9223372036854775807∧vOf w.heap.size v = .slice b o len c 0∧(adopt w).get b = .view row∧b < (adopt w).n ∧
   ∀ i,i<len → ∃ (cs:List Value) (n:Nat) (y:DataW H × List MemPlace),cs.length=z∧(∀ j cv,cs[j]? = some cv→row[o+i * z+j]? = some (vOf w.heap.size cv))∧DataW.trod enc P w 0 (fun _=>true) true n e cs=some y∧w.noneFrozen y.2):=by
 rcases open_slice ht h with ⟨hcs,_⟩ | ⟨a,len,cap,m,n,D,Pl,hcs,_,hl,hm,hmc,rfl,hx⟩
 ·cases hcs
  exact ⟨rfl,Or.inl (Or.inl rfl)⟩
 simp only [List.cons.injEq,and_true] at hcs
 subst hcs
 simp only [if_true] at hmc
 have hmc':cap=m:=hmc.symm
 subst hmc'
 rw [hz] at hx hnf
 by_cases hc0:cap=0
 ·subst hc0
  obtain rfl:len=0:=by omega
  exact ⟨vOf_none.2,Or.inl vOf_none.1⟩
 have hcell:∀ i,i<cap → ∀ j,j<z → ∃ cs,w.cells? 0 (a.add (i * z)) z=some cs ∧ ∃ cv,cs[j]? = some cv∧w.cell? ⟨a.block,a.off+i * z+j,none⟩=some cv∧a.spot=none:=fun i hi j hj=>by
  obtain ⟨cs,h1,h2⟩:=hx i hi
  obtain ⟨_,hlen,hc⟩:=World.cells?_some h1
  have hcj:=hc j hj
  rw [List.getElem?_eq_getElem (by omega:j<cs.length)] at hcj
  obtain ⟨_,_,hc00⟩:=World.cells?_some (hx 0 (by omega)).choose_spec.1
  have h00:=hc00 0 hz0
  rw [List.getElem?_eq_getElem (by rw [(World.cells?_some (hx 0 (by omega)).choose_spec.1).2.1];exact hz0)] at h00
  have hsp:a.spot=none:=by
   have:=World.cell?_spot h00
   simpa [Addr.add] using this
  refine ⟨cs,h1,_,List.getElem?_eq_getElem (by omega), ?_,hsp⟩
  obtain ⟨ab,ao,asp⟩:=a
  obtain rfl:asp=none:=hsp
  rw [Addr.add_lit,Addr.add_lit] at hcj
  exact hcj
 obtain ⟨ab,ao,asp⟩:=a
 obtain rfl:asp=none:=(hcell 0 (by omega) 0 hz0).choose_spec.2.choose_spec.2.2
 have hfz:∀ k,k<cap * z→w.frozen? ⟨ab,ao+k,none⟩=false:=fun k hk=>hnf ab (ao+k) (List.mem_append_left _ (List.mem_map.2 ⟨k,List.mem_range.2 hk,rfl⟩))
 have hgb:¬ GB ab:=fun hb=>by
  obtain ⟨cs,h1,h2⟩:=hx 0 (by omega)
  obtain ⟨_,hlen,hc⟩:=World.cells?_some h1
  refine hG ab ao _ cs _ hb hlen (fun j cv hj => ?_) h2
  have hjz:j<z:=by have:=(List.getElem?_eq_some_iff.1 hj).1;omega
  have hcj:=hc j hjz
  rw [hj,Nat.zero_mul,Addr.add_lit,Addr.add_lit,Nat.add_zero] at hcj
  exact hcj
 have hcz:0<cap * z:=Nat.mul_pos (by omega) hz0
 obtain ⟨_,_,cv0,_,hc0',_⟩:=hcell 0 (by omega) 0 hz0
 simp only [Nat.zero_mul,Nat.add_zero] at hc0'
 obtain ⟨row,zr1,zr2,_⟩:=cell_view hc0' (by simpa using hfz 0 hcz) hgb
 have hv:=vOf_slice (N:=w.heap.size) (o:=ao) hl zr2
 rw [hv]
 refine ⟨rfl, ?_⟩
 by_cases hl0:len=0
 ·subst hl0;exact Or.inl (Or.inr ⟨_,_,_,_,rfl⟩)
 refine Or.inr ⟨ab,ao,len,cap+1,row,by omega,by unfold maxLen at hm;omega,rfl,by rw [adopt_get];exact zr1,by rw [adopt_n];omega,fun i hi => ?_⟩
 obtain ⟨cs,h1,h2⟩:=hx i (by omega)
 obtain ⟨_,hlen,hc⟩:=World.cells?_some h1
 refine ⟨cs,n,_,hlen,fun j cv hj => ?_,h2,fun b off hb=>hnf b off (List.mem_append_right _ (List.mem_flatMap.2 ⟨i,List.mem_range.2 (by omega),hb⟩))⟩
 have hjz:j<z:=by have:=(List.getElem?_eq_some_iff.1 hj).1;omega
 have hcj:=hc j hjz
 rw [hj] at hcj
 rw [Addr.add_lit,Addr.add_lit] at hcj
 have hk:i * z+j<cap * z:=by
  have:(i+1) * z≤cap * z:=Nat.mul_le_mul_right _ (by omega)
  rw [Nat.add_mul] at this
  omega
 obtain ⟨row',zr1',_,zr3'⟩:=cell_view hcj (by rw [Nat.add_assoc];exact hfz _ hk) hgb
 rw [zr1] at zr1'
 cases zr1'
 exact zr3'
end
end Go.Ev
end
section
namespace Go.Ev
open Go.Deep Go.ChangeShapes Go.WideShapes Go.RowKit
theorem i64_lt {n:Int}:(n % (2 ^ IntKind.i64.bits:Nat)).toNat<18446744073709551616:=by
 have h1:(0:Int)≤n % (2 ^ IntKind.i64.bits:Nat):=Int.emod_nonneg _ (by simp [IntKind.bits])
 have h2:n % (2 ^ IntKind.i64.bits:Nat) < (2 ^ IntKind.i64.bits:Nat):=Int.emod_lt_of_pos _ (by simp [IntKind.bits])
 simp only [IntKind.bits] at h1 h2 ⊢
 omega
theorem got_range {α : Type} {len:Nat} {p:Nat → α} {i:Nat} {x : α} (hi:((List.range len).map p)[i]? = some x):i<len∧x=p i:=by
 rw [List.getElem?_map] at hi
 obtain ⟨q,h3,rfl⟩:=Option.map_eq_some_iff.1 hi
 obtain ⟨h4,h5⟩:=List.getElem?_eq_some_iff.1 h3
 rw [List.getElem_range] at h5
 subst h5
 exact ⟨by simpa using h4,rfl⟩
theorem vOf_cap {N:Nat} {v:Value} {b o l c z:Nat} (h:vOf N v = .slice b o l c z):l+1≤c:=by
 unfold vOf at h
 split at h
 ·rename_i u hu
  subst h
  unfold constV1 at hu
  split at hu <;> first | (cases hu;done) | (split at hu <;> cases hu;done)
 ·split at h
  ·split at h
   ·split at h
    ·cases h;omega
    ·split at h
     ·cases h;omega
     ·cases h
   ·cases h
  ·split at h <;> cases h
  ·split at h <;> cases h
  ·cases h
instance:Inhabited Stp:=⟨stp0⟩
theorem vOf_str {N:Nat} {s:ByteArray}:vOf N (.string s)=tv s.data.toList:=rfl
theorem steps_row {row:List V} {o:Nat}:∀ {ss:List Stp},(∀ i s,ss[i]? = some s→row[o+i * 4]? = some (.int 3 s.k)∧row[o+i * 4+1]? = some (.int 3 s.a)∧row[o+i * 4+2]? = some (.int 3 s.b)∧row[o+i * 4+3]? = some (tv s.d))→ss≠[] →
  o+ss.length * 4≤row.length∧(row.drop o).take (ss.length * 4)=Stps ss:=by
 intro ss h h0
 have hl:o+ss.length * 4≤row.length:=by
  have hp:0<ss.length:=List.length_pos_iff.2 h0
  have h1:=(h (ss.length-1) _ (List.getElem?_eq_getElem (by omega))).2.2.2
  have:=(List.getElem?_eq_some_iff.1 h1).1
  omega
 refine ⟨hl, ?_⟩
 apply List.ext_getElem?
 intro j
 by_cases hj:j<ss.length * 4
 ·rw [List.getElem?_take,if_pos hj,List.getElem?_drop]
  obtain ⟨i,q,hq,rfl⟩:∃ i q,q<4∧j=i * 4+q:=⟨j / 4,j % 4,by omega,by omega⟩
  have hi:i<ss.length:=by omega
  obtain ⟨a0,a1,a2,a3⟩:=h i _ (List.getElem?_eq_getElem hi)
  have hs:((Stps ss).drop (i * 4)).take 4=(ss[i]).cells:=by
   have e1:ss=ss.take i ++ ss[i] :: ss.drop (i+1):=by rw [List.getElem_cons_drop,List.take_append_drop]
   have e2:Stps ss=Stps (ss.take i) ++ ((ss[i]).cells ++ Stps (ss.drop (i+1))):=by
    conv=>lhs;rw [e1]
    simp only [Stps,List.flatMap_append,List.flatMap_cons]
   have e3:(Stps (ss.take i)).length=i * 4:=by rw [Stps_len,List.length_take,Nat.min_eq_left (by omega)]
   rw [e2,← e3,List.drop_left]
   rfl
  have hg:(Stps ss)[i * 4+q]? = (ss[i]).cells[q]?:=by
   rw [← hs,List.getElem?_take,if_pos hq,List.getElem?_drop]
  rw [hg]
  match q,hq with
  | 0,_=>exact a0
  | 1,_=>rw [← Nat.add_assoc];exact a1
  | 2,_=>rw [← Nat.add_assoc];exact a2
  | 3,_=>rw [← Nat.add_assoc];exact a3
 ·rw [List.getElem?_eq_none (by rw [List.length_take];omega),List.getElem?_eq_none (by rw [Stps_len];omega)]
section
variable {H:Type} {enc:TypeId × Value→H} {P:Program} {w:World}
theorem steps_seen (hg:GQ w) {t e:TypeId} {f0 f1 f2 f3:Field} {fuel:Nat} {v:Value} {x:DataW H × List MemPlace} (ht:P.underlying t=some (.slice e)) (he:P.underlying e=some (.struct #[f0,f1,f2,f3])) (hz:P.cellsOf e=4)
  (o0:f0.offset=0) (o1:f1.offset=1) (o2:f2.offset=2) (o3:f3.offset=3) (zc0:P.cellsOf f0.type=1) (zc1:P.cellsOf f1.type=1) (zc2:P.cellsOf f2.type=1) (zc3:P.cellsOf f3.type=1)
  (u0:P.underlying f0.type=some (.int .i64)) (u1:P.underlying f1.type=some (.int .i64)) (u2:P.underlying f2.type=some (.int .i64)) (u3:P.underlying f3.type=some .string)
  (h:DataW.trod enc P w 0 (fun _=>true) true fuel t [v]=some x) (hnf:w.noneFrozen x.2) :
  (vOf w.heap.size v).one=true ∧ ∃ ss,StAt (adopt w) (vOf w.heap.size v) ss∧((vOf w.heap.size v = .nils∧ss=[]) ∨ ∃ b o c z,vOf w.heap.size v = .slice b o ss.length c z∧ss.length+1≤c)∧ss.length<9223372036854775808 ∧ ∀ s ∈ ss,StOK s:=by
 obtain ⟨h1,h2⟩:=slice_seen ht hz (by omega) h hnf (fun b o n cs y hb hlen hcs htr=>by
  obtain ⟨xs,n',_,_,_,hxl,hf⟩:=DataW.trod_struct he htr
  match cs,hlen with
  | [w0,w1,w2,w3],_=>
   have a0:=hf 0 f0 rfl
   simp [o0,zc0] at a0
   have hxl:xs.length=4:=hxl
   rw [List.getElem?_eq_getElem (by omega)] at a0
   obtain ⟨n0,e0,_,x0⟩:=DataW.trod_int u0 a0
   cases e0
   have hc:=hcs 0 _ rfl
   obtain ⟨cs',e',fr',q1,q2⟩:=hg.2.2.2.2.1 b hb
   unfold World.cell? at hc
   rw [q1] at hc
   simp at hc
   exact q2 _ _ hc)
 refine ⟨h1, ?_⟩
 rcases h2 with h2 | ⟨b,o,len,c,row,hl0,hl,hv,hb,hbn,hx⟩
 ·refine ⟨[],Or.inl ⟨h2,rfl⟩, ?_,by simp,by simp⟩
  rcases h2 with h2 | ⟨b,o,c,s,h2⟩
  ·exact Or.inl ⟨h2,rfl⟩
  ·exact Or.inr ⟨b,o,c,s,h2,vOf_cap h2⟩
 have each:∀ i,i<len → ∃ s:Stp,row[o+i * 4]? = some (.int 3 s.k)∧row[o+i * 4+1]? = some (.int 3 s.a)∧row[o+i * 4+2]? = some (.int 3 s.b)∧row[o+i * 4+3]? = some (tv s.d)∧StOK s:=fun i hi=>by
  obtain ⟨cs,n,y,hlen,hcs,htr,_⟩:=hx i hi
  obtain ⟨xs,n',_,_,_,hxl,hf⟩:=DataW.trod_struct he htr
  match cs,hlen with
  | [w0,w1,w2,w3],_=>
   have a0:=hf 0 f0 rfl
   have a1:=hf 1 f1 rfl
   have a2:=hf 2 f2 rfl
   have a3:=hf 3 f3 rfl
   simp [o0,zc0] at a0
   simp [o1,zc1] at a1
   simp [o2,zc2] at a2
   simp [o3,zc3] at a3
   have hxl:xs.length=4:=hxl
   rw [List.getElem?_eq_getElem (by omega)] at a0 a1 a2 a3
   obtain ⟨n0,e0,_,x0⟩:=DataW.trod_int u0 a0
   obtain ⟨n1,e1,_,x1⟩:=DataW.trod_int u1 a1
   obtain ⟨n2,e2,_,x2⟩:=DataW.trod_int u2 a2
   obtain ⟨s3,e3,_,x3⟩:=DataW.trod_string u3 a3
   cases e0;cases e1;cases e2;cases e3
   have zr0:=hcs 0 _ rfl
   have zr1:=hcs 1 _ rfl
   have zr2:=hcs 2 _ rfl
   have zr3:=hcs 3 _ rfl
   rw [vOf_int x0] at zr0
   rw [vOf_int x1] at zr1
   rw [vOf_int x2] at zr2
   rw [vOf_str] at zr3
   exact ⟨⟨_,_,_,_⟩,zr0,zr1,zr2,zr3,i64_lt,i64_lt,i64_lt,by
    show s3.data.toList.length<_
    rw [Array.length_toList]
    have:s3.size=s3.data.size:=rfl
    unfold maxLen at x3
    omega⟩
 obtain ⟨p,hp⟩:=choose_lt each
 have hlen:((List.range len).map p).length=len:=by rw [List.length_map,List.length_range]
 obtain ⟨q1,q2⟩:=steps_row (row:=row) (o:=o) (ss:=(List.range len).map p) (fun i s hi=>by
  obtain ⟨h3,rfl⟩:=got_range hi
  obtain ⟨y0,y1,y2,y3,_⟩:=hp i h3
  exact ⟨y0,y1,y2,y3⟩) (by intro e;rw [e] at hlen;simp at hlen;omega)
 refine ⟨(List.range len).map p,Or.inr ⟨b,o,c,0,row,by rw [hv,hlen],Or.inr hb,hbn,q1,q2⟩,Or.inr ⟨b,o,c,0,by rw [hv,hlen],by rw [hlen];exact vOf_cap hv⟩,by rw [hlen];omega,fun s hs => ?_⟩
 obtain ⟨i,hi⟩:=List.getElem?_of_mem hs
 obtain ⟨h3,rfl⟩:=got_range hi
 exact (hp i h3).2.2.2.2
end
end Go.Ev
end
section
namespace Go.Ev
open Go.RowKit
section
variable {P:Program} {base:Nat} {w0 w:World} {rho:Nat→Option Nat} {H H':Heap}
theorem PR.store_one (hp:PR P base w0 rho H w) {b c:Nat} {u v:V} {cv:Value} (hb:H.get b = .cells [u]) (hr:rho b=some c) (S:SetTo H b (.cells [v]) H') (hv:VR (mu rho H w) v cv) (h1:v.one=true) :
  PR P base w0 rho H' (w.setCell ⟨c,0,none⟩ cv)∧Ext rho H w rho H' (w.setCell ⟨c,0,none⟩ cv):=by
 obtain ⟨ob,g1,g2⟩:=hp.blk b c hr
 rw [hb] at g2
 obtain ⟨cs,e,fr,rfl,hR,hnf⟩:=g2
 obtain ⟨_,c0,hc0,_⟩:=hR.1 0 u rfl
 have hlt:0<cs.size:=(Array.getElem?_eq_some_iff.1 hc0).1
 have hsz:(cs.setIfInBounds 0 cv).size=cs.size:=by simp
 refine hp.write hr (by rw [hb];simp) S.n S.wlo S.wb S.get S.oth trivial ⟨rfl,rfl,rfl⟩ (by simp [World.setCell]) (o := .cells (cs.setIfInBounds 0 cv) e fr) (by simp [World.setCell,Array.getElem?_modify,g1]) (fun j hj=>by simp [World.setCell,Array.getElem?_modify,Ne.symm hj])
  ⟨_,e,fr,rfl,⟨fun i v' hi => ?_,fun i hi=>hR.2 i (by rw [← hsz];exact hi)⟩,by rw [hsz];exact hnf⟩ (fun cs' e' fr' h=>by rw [g1] at h;cases h;exact ⟨_,_,_,rfl,hsz⟩) (fun r h=>by rw [g1] at h;cases h)
 cases i with
 | zero=>
  cases hi
  exact ⟨h1,cv,by rw [Array.getElem?_setIfInBounds];simp [hlt],hv⟩
 | succ i=>simp at hi
end
structure AsOK (P:Program) (f:FuncId):Prop where
 hfn:∃ fn c,P.funcs[f]? = some fn∧fn.body=some c∧(fn.name == "runtime.NumGoroutine")=false
 nil:∀ (w:World) (x:Value),Calls P f #[.nilIface,x] w fun e w'=>e = .returned (.bool false)∧w'=w
 errno:∀ (w:World) (x:Int) (c:Nat) (old:Value),GQ w→w.cell? ⟨c,0,none⟩=some old→w.frozen? ⟨c,0,none⟩=false →
  Calls P f #[.iface 25 (.int .i64 x), .iface 70 (.pointer (some ⟨c,0,none⟩))] w fun e w'=>e = .returned (.bool true) ∧ ∃ w1,Below w.heap.size w w1∧w'=w1.setCell ⟨c,0,none⟩ (.int .i64 x)
 fault:∀ (w:World) (q c:Nat) (old:Value),GQ w→w.cell? ⟨c,0,none⟩=some old→w.frozen? ⟨c,0,none⟩=false →
  Calls P f #[.iface 43 (.pointer (some ⟨q,0,none⟩)), .iface 74 (.pointer (some ⟨c,0,none⟩))] w fun e w'=>e = .returned (.bool true) ∧ ∃ w1,Below w.heap.size w w1∧w'=w1.setCell ⟨c,0,none⟩ (.pointer (some ⟨q,0,none⟩))
section
variable {P:Program}
theorem AsOK.hit {f:FuncId} {fn:Func} {c0:Code} (hf:P.funcs[f]? = some fn) (hbd:fn.body=some c0) (hn:(fn.name == "runtime.NumGoroutine")=false) {t t2 b:Nat} {v u:V} {H H':Heap} (hb:H.get b = .cells [u]) (S:SetTo H b (.cells [v]) H') (h1:v.one=true)
  (hj:∀ (base:Nat) (w0:World) (rho:Nat→Option Nat) (w:World) (y:Value) (c:Nat) (old:Value),PR P base w0 rho H w→VR (mu rho H w) v y→w.cell? ⟨c,0,none⟩=some old→w.frozen? ⟨c,0,none⟩=false →
   Calls P f #[.iface t y, .iface t2 (.pointer (some ⟨c,0,none⟩))] w fun e w'=>e = .returned (.bool true) ∧ ∃ w1,Below w.heap.size w w1∧w'=w1.setCell ⟨c,0,none⟩ y) :
  CallF P f [.iface t v, .iface t2 (.ptr b 0)] H (.bool true) H':=fun base w0 rho w cargs hp hv=>by
 simp only [VRs] at hv
 obtain ⟨d1,r1,e1,v1,d2,r2,rfl,v2,rfl⟩:=hv
 simp only [VR] at v1 v2
 obtain ⟨y,rfl,hy⟩:=v1
 obtain ⟨_,rfl,c,rfl,hm⟩:=v2
 have hc:cargs = #[.iface t y, .iface t2 (.pointer (some ⟨c,0,none⟩))]:=by apply Array.ext';exact e1
 subst hc
 have hr:rho b=some c:=hm.2 (by rw [hb];trivial)
 obtain ⟨cv,q1,_,_,q4⟩:=hp.rcell (i:=0) hr (row:=[u]) (by rw [hb];rfl) rfl (Or.inr (by rw [hb];rfl))
 refine ⟨run_callFunc hf hbd hn _ _, ?_⟩
 refine CallsIn.mono (callsIn_wide.2 (hj base w0 rho w y c cv hp hy q1 q4)) ?_
 rintro e w' ⟨rfl,w1,hbl,rfl⟩
 obtain ⟨p1,x1⟩:=hp.called hbl
 obtain ⟨p2,x2⟩:=p1.store_one hb hr S (VR.mono x1.mu _ _ hy) h1
 exact ⟨.bool true,rfl,rho,by simp only [VR],p2,Ext.trans hp.lt x1 x2⟩
theorem AsOK.nat {f:FuncId} (hj:AsOK P f):NatOK P f nAs:=fun args H k h=>by
 obtain ⟨fn,c0,hf,hbd,hn⟩:=hj.hfn
 unfold nAs at h
 split at h
 ·rename_i x
  refine ⟨_,H,CallF.of_calls hf hbd hn fun base w0 rho w cargs hp hv => ?_,h⟩
  simp only [VRs] at hv
  obtain ⟨c1,r1,e1,v1,c2,r2,rfl,v2,rfl⟩:=hv
  simp only [VR] at v1
  subst v1
  have hc:cargs = #[.nilIface,c2]:=by apply Array.ext';exact e1
  subst hc
  refine ⟨.bool false,by simp only [VR],(hj.nil w c2).mono ?_⟩
  rintro e w' ⟨rfl,rfl⟩
  exact ⟨rfl,Below.refl _ _⟩
 ·rename_i t v t2 b
  split at h
  ·rename_i c old hb
   split at h
   ·rename_i hc
    obtain ⟨rfl,rfl⟩:=hc
    obtain ⟨H',h7,hS⟩:=hSet_ok h
    refine ⟨_,H',AsOK.hit hf hbd hn hb hS rfl fun base w0 rho w y c old hp hy q1 q2 => ?_,h7⟩
    simp only [VR] at hy
    obtain ⟨rfl,_⟩:=hy
    exact hj.errno w _ c old hp.gl.1 q1 q2
   ·exact (no_ne h).elim
  ·rename_i q hb
   split at h
   ·rename_i hc
    obtain ⟨rfl,rfl⟩:=hc
    obtain ⟨H',h7,hS⟩:=hSet_ok h
    refine ⟨_,H',AsOK.hit hf hbd hn hb hS rfl fun base w0 rho w y c old hp hy q1 q2 => ?_,h7⟩
    simp only [VR] at hy
    obtain ⟨qc,rfl,_⟩:=hy
    exact hj.fault w qc c old hp.gl.1 q1 q2
   ·exact (no_ne h).elim
  ·exact (no_ne h).elim
 ·exact (no_ne h).elim
structure IsOK (P:Program) (f:FuncId):Prop where
 hfn:∃ fn c,P.funcs[f]? = some fn∧fn.body=some c∧(fn.name == "runtime.NumGoroutine")=false
 call:∀ (w:World) (q:Nat) (x c:Int),w.cell? ⟨q,0,none⟩=some (.int .i64 x)→Calls P f #[.iface 43 (.pointer (some ⟨q,0,none⟩)), .iface 25 (.int .i64 c)] w fun e w'=>e = .returned (.bool (decide (x=c)))∧w'=w
theorem toI_inj64 {a b:Nat} (ha:a<18446744073709551616) (hb:b<18446744073709551616) (h:toI .i64 a=toI .i64 b):a=b:=by
 unfold toI IntKind.wrap at h
 simp [IntKind.signed,IntKind.bits] at h
 omega
theorem IsOK.nat {f:FuncId} (hj:IsOK P f):NatOK P f nIs:=fun args H k h=>by
 obtain ⟨fn,c0,hf,hbd,hn⟩:=hj.hfn
 unfold nIs at h
 split at h
 ·rename_i t q t2 c
  split at h
  ·rename_i x y hb
   split at h
   ·rename_i hc
    obtain ⟨rfl,rfl⟩:=hc
    refine ⟨_,H,CallF.of_calls hf hbd hn fun base w0 rho w cargs hp hv => ?_,h⟩
    simp only [VRs] at hv
    obtain ⟨d1,r1,e1,v1,d2,r2,rfl,v2,rfl⟩:=hv
    simp only [VR] at v1 v2
    obtain ⟨_,rfl,qc,rfl,hm⟩:=v1
    obtain ⟨_,rfl,rfl,hcl,_⟩:=v2
    have hca:cargs = #[.iface 43 (.pointer (some ⟨qc,0,none⟩)), .iface 25 (.int .i64 (toI .i64 c))]:=by apply Array.ext';exact e1
    subst hca
    have hr:rho q=some qc:=hm.2 (by rw [hb];trivial)
    obtain ⟨cv,q1,q2,_,_⟩:=hp.rcell (i:=0) hr (row:=[.int 3 x, .int 3 y]) (by rw [hb];rfl) rfl (Or.inr (by rw [hb];rfl))
    simp only [VR] at q2
    obtain ⟨rfl,hxl,_⟩:=q2
    refine ⟨.bool (decide (toI .i64 x=toI .i64 c)), ?_,(hj.call w qc _ _ q1).mono ?_⟩
    ·simp only [VR]
     congr 1
     rw [Bool.eq_iff_iff,decide_eq_true_eq]
     refine ⟨fun h => ?_,fun h => ?_⟩
     ·rw [toI_inj64 hxl hcl h];exact Nat.beq_refl c
     ·rw [Nat.eq_of_beq_eq_true h]
    ·rintro e w' ⟨rfl,rfl⟩
     exact ⟨rfl,Below.refl _ _⟩
   ·exact (no_ne h).elim
  ·exact (no_ne h).elim
 ·exact (no_ne h).elim
end
end Go.Ev
end
