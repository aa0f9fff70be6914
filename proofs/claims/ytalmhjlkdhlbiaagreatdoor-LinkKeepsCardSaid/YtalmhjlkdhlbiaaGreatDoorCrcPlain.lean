/- CRC-32,plain: the sums by four bits and by single bits are one;one byte that is another one is found. No program in sight. -/
import Derived.WalkKit
open Nat renaming lt_of_lt_of_le → YE,shiftRight_eq_div_pow → WA,xor_assoc → Wu,pow_le_pow_right → QX,eq_of_testBit_eq → YC4,xor_comm → YD2,shiftRight_xor_distrib → YE3,mod_two_eq_zero_or_one → YE4,testBit_lt_two_pow → YH4,xor_zero → YI0,xor_self → YI1,xor_mod_two_pow → YL1,zero_testBit → YO1,testBit_xor → YP0,testBit_and → YP1
namespace Go.Crc
def tab:List Nat:=[0x00000000,0x1db71064,0x3b6e20c8,0x26d930ac,0x76dc4190,0x6b6b51f4,0x4db26158,0x5005713c,0xedb88320,0xf00f9344,0xd6d6a3e8,0xcb61b38c,0x9b64c2b0,0x86d3d2d4,0xa00ae278,0xbdbdf21c]
/-- Four bits are put in. -/
def sJ (n c:Nat):Nat:=(n/16) ^^^ tab.getD ((n ^^^ c)%16) 0
/-- A byte is. -/
def Q3 (n b:Nat):Nat:=sJ (sJ n b) (b/16)
/-- The number behind bytes. -/
def raw (n:Nat) (l:List UInt8):Nat:=l.foldl (λn b=>Q3 n b.toNat) n
/-- The sum. -/
def sum (l:List UInt8):Nat:=4294967295-raw 4294967295 l
/-- One bit falls out. -/
def bs (n:Nat):Nat:=if n%2=1 then (n/2) ^^^ 3988292384 else n/2
def Fq (n:Nat):Nat->Nat
 | 0=>n
 | k+1=>bs (Fq n k)
theorem PL (k:Nat):tab.getD k 0<4294967296:=by
 match k with
 | 0 | 1 | 2 | 3 | 4 | 5 | 6 | 7 | 8 | 9 | 10 | 11 | 12 | 13 | 14 | 15=>decide
 | k+16=>simp [tab]
theorem ri {a b:Nat} (ha:a<4294967296) (hb:b<4294967296):a ^^^ b<4294967296:=Nat.xor_lt_two_pow (n:=32) ha hb
theorem Hl {n:Nat} (h:n<4294967296) (c:Nat):sJ n c<4294967296:=ri (by omega) (PL _)
theorem vI {n:Nat} (h:n<4294967296) (b:Nat):Q3 n b<4294967296:=Hl (Hl h _) _
theorem xq (l:List UInt8):∀ {n:Nat},n<4294967296->raw n l<4294967296:=by
 induction l with
 | nil=>intro n h;exact h
 | cons b l ih=>intro n h;exact ih (vI h _)
theorem PJ (l:List UInt8):sum l<4294967296:=by unfold sum;omega
theorem O7 (n:Nat) (l:List UInt8) (b:UInt8):raw n (l ++ [b])=Q3 (raw n l) b.toNat:=by simp [raw]
theorem xm (n:Nat) (l m:List UInt8):raw n (l ++ m)=raw (raw n l) m:=by simp [raw]
theorem xo (n:Nat) (b:UInt8) (l:List UInt8):raw n (b :: l)=raw (Q3 n b.toNat) l:=rfl
theorem P9 {n:Nat} (h:n<4294967296):4294967295 ^^^ n=4294967295-n:=by
 have e:4294967295-n=2 ^ 32-(n+1):=by omega
 rw [e]
 apply YC4
 intro i
 rw [Nat.testBit_two_pow_sub_succ (by omega),YP0,show (4294967295:Nat)=2 ^ 32-1 from rfl,Nat.testBit_two_pow_sub_one]
 by_cases hi:i<32
 .simp [hi]
 .have:n.testBit i=false:=YH4 (YE h (QX (by decide:0<2) (by omega:32<=i)))
  simp [hi,this]
/-! ### acP ways are one -/
theorem aak {n:Nat} (h:n<4294967296):bs n<4294967296:=by
 unfold bs;split
 .exact ri (by omega) (by decide)
 .omega
theorem Mo {n:Nat} (h:n<4294967296) (k:Nat):Fq n k<4294967296:=by
 induction k with
 | zero=>exact h
 | succ k ih=>exact aak ih
theorem P7 (a b:Nat):(a ^^^ b)/2=(a/2) ^^^ (b/2):=by
 have:=YE3 (a:=a) (b:=b) (i:=1)
 simpa [WA] using this
theorem P8 (a b:Nat):(a ^^^ b)%2=(a%2) ^^^ (b%2):=YL1 (n:=1) (a:=a) (b:=b)
theorem zW (a b:Nat):(a ^^^ b)/16=(a/16) ^^^ (b/16):=by
 have:=YE3 (a:=a) (b:=b) (i:=4)
 simpa [WA] using this
theorem pX (a b:Nat):(a ^^^ b)%16=(a%16) ^^^ (b%16):=YL1 (n:=4) (a:=a) (b:=b)
theorem Mm (a b:Nat):bs (a ^^^ b)=bs a ^^^ bs b:=by
 unfold bs
 rw [P7,P8]
 rcases YE4 a with ha|ha<;>rcases YE4 b with hb|hb<;>simp only [ha,hb]
 .simp
 .simp [Wu]
 .simp only [if_true,show ((0:Nat)=1)=False by simp,if_false,YI0]
  rw [Wu,Wu,YD2 (b/2)]
 .simp only [YI1,Nat.zero_ne_one,if_false,if_true]
  rw [Wu,<- Wu 3988292384,YD2 3988292384,Wu,YI1,YI0]
theorem Se (a b k:Nat):Fq (a ^^^ b) k=Fq a k ^^^ Fq b k:=by
 induction k with
 | zero=>rfl
 | succ k ih=>simp only [Fq,ih,Mm]
theorem rK (y:Nat):bs (2*y)=y:=by unfold bs;rw [if_neg (by omega)];omega
theorem J1 (y:Nat):Fq (16*y) 4=y:=by
 show bs (bs (bs (bs (16*y))))=y
 rw [show 16*y=2*(2*(2*(2*y))) by omega,rK,rK,rK,rK]
theorem Mn (k:Nat) (h:k<16):Fq k 4=tab.getD k 0:=by
 match k,h with
 | 0,_ | 1,_ | 2,_ | 3,_ | 4,_ | 5,_ | 6,_ | 7,_ | 8,_ | 9,_ | 10,_ | 11,_ | 12,_ | 13,_ | 14,_ | 15,_=>decide
 | k+16,h=>exact absurd h (by omega)
theorem Uo (x:Nat):x=(16*(x/16)) ^^^ (x%16):=by
 have h:(16*(x/16)) ^^^ (x%16)=16*(x/16)+x%16:=by
  have:=Nat.two_pow_add_eq_or_of_lt (i:=4) (b:=x%16) (by omega) (x/16)
  have h2:(2 ^ 4*(x/16)) &&& (x%16)=0:=by
   apply YC4
   intro i
   simp only [YP1,Nat.testBit_two_pow_mul,YO1]
   by_cases hi:4<=i
   .have:(x%16).testBit i=false:=YH4 (YE (Nat.mod_lt _ (by decide)) (QX (by decide:0<2) hi))
    simp [this]
   .simp [hi]
  have h3:(2 ^ 4*(x/16)) ^^^ (x%16)=(2 ^ 4*(x/16)) ||| (x%16):=by
   apply YC4
   intro i
   have:=congrArg (λn=>Nat.testBit n i) h2
   simp only [YP1,YO1]at this
   simp only [YP0,Nat.testBit_or]
   cases h1:(2 ^ 4*(x/16)).testBit i<;>cases h4:(x%16).testBit i<;>simp_all
  rw [show (16:Nat)=2 ^ 4 from rfl]at *
  rw [h3,<- this]
 omega
theorem aal (x:Nat):Fq x 4=(x/16) ^^^ tab.getD (x%16) 0:=by
 conv=>lhs;rw [Uo x]
 rw [Se,J1,Mn _ (by omega)]
theorem Sd (n j k:Nat):Fq n (j+k)=Fq (Fq n j) k:=by
 induction k with
 | zero=>rfl
 | succ k ih=>show bs (Fq n (j+k))=bs _;rw [ih]
/-- A byte by four bits twice,and by eight single bits. -/
theorem rL (n b:Nat) (hb:b<256):Q3 n b=Fq (n ^^^ b) 8:=by
 rw [show 8=4+4 from rfl,Sd,aal (n ^^^ b),aal]
 unfold Q3 sJ
 have e:(n ^^^ b)/16 ^^^ tab.getD ((n ^^^ b)%16) 0=(n/16 ^^^ tab.getD ((n ^^^ b)%16) 0) ^^^ (b/16):=by
  rw [zW,Wu,Wu,YD2 (b/16)]
 rw [e,zW _ (b/16),show b/16/16=0 by omega,YI0]
/-! ### One byte that is another one -/
theorem W0 {a b:Nat} (ha:a<4294967296) (hb:b<4294967296) (h:bs a=bs b):a=b:=by
 have hx:bs (a ^^^ b)=0:=by rw [Mm,h,YI1]
 have hl:a ^^^ b<4294967296:=ri ha hb
 have h0:a ^^^ b=0:=by
  generalize a ^^^ b=x at hx hl
  unfold bs at hx
  split at hx
  .have e:x/2=3988292384:=by
    have:=congrArg (· ^^^ 3988292384) hx
    simpa [Wu] using this
   omega
  .omega
 have e:a ^^^ (a ^^^ b)=b:=by rw [<- Wu,YI1,Nat.zero_xor]
 rw [h0,YI0]at e
 exact e
theorem IU {a b:Nat} (k:Nat) (ha:a<4294967296) (hb:b<4294967296) (h:Fq a k=Fq b k):a=b:=by
 induction k with
 | zero=>exact h
 | succ k ih=>exact ih (W0 (Mo ha k) (Mo hb k) h)
theorem xor_right_inj {a b c:Nat} (h:a ^^^ c=b ^^^ c):a=b:=by
 have:=congrArg (· ^^^ c) h
 simpa [Wu] using this
theorem Ak {a b:Nat} (ha:a<4294967296) (hb:b<4294967296) (c:UInt8) (h:Q3 a c.toNat=Q3 b c.toNat):a=b:=by
 have hc:c.toNat<256:=c.toNat_lt
 rw [rL _ _ hc,rL _ _ hc]at h
 exact xor_right_inj (IU 8 (ri ha (by omega)) (ri hb (by omega)) h)
theorem xR {a:Nat} (ha:a<4294967296) (c d:UInt8) (h:Q3 a c.toNat=Q3 a d.toNat):c=d:=by
 have hc:c.toNat<256:=c.toNat_lt
 have hd:d.toNat<256:=d.toNat_lt
 rw [rL _ _ hc,rL _ _ hd]at h
 have:=IU 8 (ri ha (by omega)) (ri ha (by omega)) h
 rw [YD2 a,YD2 a]at this
 exact UInt8.toNat_inj.1 (xor_right_inj this)
theorem BA (l:List UInt8):∀ {a b:Nat},a<4294967296->b<4294967296->raw a l=raw b l->a=b:=by
 induction l with
 | nil=>intro a b _ _ h;exact h
 | cons c l ih=>intro a b ha hb h;exact Ak ha hb c (ih (vI ha _) (vI hb _) h)
/-- One byte that is another one is found. -/
theorem afp (l m:List UInt8) (c d:UInt8) (h:c≠d):sum (l ++ c :: m)≠sum (l ++ d :: m):=by
 intro e
 unfold sum at e
 have hn:raw 4294967295 l<4294967296:=xq l (by decide)
 have h1:raw 4294967295 (l ++ c :: m)<4294967296:=xq _ (by decide)
 have h2:raw 4294967295 (l ++ d :: m)<4294967296:=xq _ (by decide)
 have e2:raw 4294967295 (l ++ c :: m)=raw 4294967295 (l ++ d :: m):=by omega
 rw [xm,xm,xo,xo]at e2
 exact h (xR hn c d (BA m (vI hn _) (vI hn _) e2))
end Go.Crc
