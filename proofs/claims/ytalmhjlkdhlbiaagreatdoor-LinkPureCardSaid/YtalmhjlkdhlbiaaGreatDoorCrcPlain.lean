/- CRC-32,plain: the sums by four bits and by single bits are one;one byte that is another one is found. No program in sight. -/
import Derived.WalkKit
open Nat renaming lt_of_lt_of_le → YC,shiftRight_eq_div_pow → Yy,xor_assoc → Ww,pow_le_pow_right → QY,eq_of_testBit_eq → YD2,xor_comm → YE0,shiftRight_xor_distrib → YF1,mod_two_eq_zero_or_one → YF2,testBit_lt_two_pow → YH4,xor_zero → YI0,xor_self → YI1,xor_mod_two_pow → YK4,zero_testBit → YN2,testBit_xor → YO0,testBit_and → YO1
set_option linter.unusedVariables false
set_option linter.unusedSimpArgs false
set_option linter.unusedSectionVars false
namespace Go.Crc
def tab:List Nat:=[0x00000000,0x1db71064,0x3b6e20c8,0x26d930ac,0x76dc4190,0x6b6b51f4,0x4db26158,0x5005713c,0xedb88320,0xf00f9344,0xd6d6a3e8,0xcb61b38c,0x9b64c2b0,0x86d3d2d4,0xa00ae278,0xbdbdf21c]
/-- Four bits are put in. -/
def sq (n c:Nat):Nat:=(n/16) ^^^ tab.getD ((n ^^^ c)%16) 0
/-- A byte is. -/
def Q8 (n b:Nat):Nat:=sq (sq n b) (b/16)
/-- The number behind bytes. -/
def raw (n:Nat) (l:List UInt8):Nat:=l.foldl (λn b=>Q8 n b.toNat) n
/-- The sum. -/
def sum (l:List UInt8):Nat:=4294967295-raw 4294967295 l
/-- One bit falls out. -/
def bs (n:Nat):Nat:=if n%2=1 then (n/2) ^^^ 3988292384 else n/2
def EW (n:Nat):Nat->Nat
 | 0=>n
 | k+1=>bs (EW n k)
theorem PM (k:Nat):tab.getD k 0<4294967296:=by
 match k with
 | 0 | 1 | 2 | 3 | 4 | 5 | 6 | 7 | 8 | 9 | 10 | 11 | 12 | 13 | 14 | 15=>decide
 | k+16=>simp [tab]
theorem qU {a b:Nat} (ha:a<4294967296) (hb:b<4294967296):a ^^^ b<4294967296:=Nat.xor_lt_two_pow (n:=32) ha hb
theorem GJ {n:Nat} (h:n<4294967296) (c:Nat):sq n c<4294967296:=qU (by omega) (PM _)
theorem vR {n:Nat} (h:n<4294967296) (b:Nat):Q8 n b<4294967296:=GJ (GJ h _) _
theorem xq (l:List UInt8):∀ {n:Nat},n<4294967296->raw n l<4294967296:=by
 induction l with
 | nil=>intro n h;exact h
 | cons b l ih=>intro n h;exact ih (vR h _)
theorem PK (l:List UInt8):sum l<4294967296:=by unfold sum;omega
theorem Pd (n:Nat) (l:List UInt8) (b:UInt8):raw n (l ++ [b])=Q8 (raw n l) b.toNat:=by simp [raw]
theorem xm (n:Nat) (l m:List UInt8):raw n (l ++ m)=raw (raw n l) m:=by simp [raw]
theorem xo (n:Nat) (b:UInt8) (l:List UInt8):raw n (b :: l)=raw (Q8 n b.toNat) l:=rfl
theorem Q5 {n:Nat} (h:n<4294967296):4294967295 ^^^ n=4294967295-n:=by
 have e:4294967295-n=2 ^ 32-(n+1):=by omega
 rw [e]
 apply YD2
 intro i
 rw [Nat.testBit_two_pow_sub_succ (by omega),YO0,show (4294967295:Nat)=2 ^ 32-1 from rfl,Nat.testBit_two_pow_sub_one]
 by_cases hi:i<32
 .simp [hi]
 .have:n.testBit i=false:=YH4 (YC h (QY (by decide:0<2) (by omega:32<=i)))
  simp [hi,this]
/-! ### nH ways are one -/
theorem Z0 {n:Nat} (h:n<4294967296):bs n<4294967296:=by
 unfold bs;split
 .exact qU (by omega) (by decide)
 .omega
theorem Mb {n:Nat} (h:n<4294967296) (k:Nat):EW n k<4294967296:=by
 induction k with
 | zero=>exact h
 | succ k ih=>exact Z0 ih
theorem Q3 (a b:Nat):(a ^^^ b)/2=(a/2) ^^^ (b/2):=by
 have:=YF1 (a:=a) (b:=b) (i:=1)
 simpa [Yy] using this
theorem Q4 (a b:Nat):(a ^^^ b)%2=(a%2) ^^^ (b%2):=YK4 (n:=1) (a:=a) (b:=b)
theorem zV (a b:Nat):(a ^^^ b)/16=(a/16) ^^^ (b/16):=by
 have:=YF1 (a:=a) (b:=b) (i:=4)
 simpa [Yy] using this
theorem pO (a b:Nat):(a ^^^ b)%16=(a%16) ^^^ (b%16):=YK4 (n:=4) (a:=a) (b:=b)
theorem L9 (a b:Nat):bs (a ^^^ b)=bs a ^^^ bs b:=by
 unfold bs
 rw [Q3,Q4]
 rcases YF2 a with ha|ha<;>rcases YF2 b with hb|hb<;>simp only [ha,hb]
 .simp
 .simp [Ww]
 .simp only [if_true,show ((0:Nat)=1)=False by simp,if_false,YI0]
  rw [Ww,Ww,YE0 (b/2)]
 .simp only [YI1,Nat.zero_ne_one,if_false,if_true]
  rw [Ww,<- Ww 3988292384,YE0 3988292384,Ww,YI1,YI0]
theorem RH (a b k:Nat):EW (a ^^^ b) k=EW a k ^^^ EW b k:=by
 induction k with
 | zero=>rfl
 | succ k ih=>simp only [EW,ih,L9]
theorem rj (y:Nat):bs (2*y)=y:=by unfold bs;rw [if_neg (by omega)];omega
theorem JE (y:Nat):EW (16*y) 4=y:=by
 show bs (bs (bs (bs (16*y))))=y
 rw [show 16*y=2*(2*(2*(2*y))) by omega,rj,rj,rj,rj]
theorem Ma (k:Nat) (h:k<16):EW k 4=tab.getD k 0:=by
 match k,h with
 | 0,_ | 1,_ | 2,_ | 3,_ | 4,_ | 5,_ | 6,_ | 7,_ | 8,_ | 9,_ | 10,_ | 11,_ | 12,_ | 13,_ | 14,_ | 15,_=>decide
 | k+16,h=>exact absurd h (by omega)
theorem TN (x:Nat):x=(16*(x/16)) ^^^ (x%16):=by
 have h:(16*(x/16)) ^^^ (x%16)=16*(x/16)+x%16:=by
  have:=Nat.two_pow_add_eq_or_of_lt (i:=4) (b:=x%16) (by omega) (x/16)
  have h2:(2 ^ 4*(x/16)) &&& (x%16)=0:=by
   apply YD2
   intro i
   simp only [YO1,Nat.testBit_two_pow_mul,YN2]
   by_cases hi:4<=i
   .have:(x%16).testBit i=false:=YH4 (YC (Nat.mod_lt _ (by decide)) (QY (by decide:0<2) hi))
    simp [this]
   .simp [hi]
  have h3:(2 ^ 4*(x/16)) ^^^ (x%16)=(2 ^ 4*(x/16)) ||| (x%16):=by
   apply YD2
   intro i
   have:=congrArg (λn=>Nat.testBit n i) h2
   simp only [YO1,YN2]at this
   simp only [YO0,Nat.testBit_or]
   cases h1:(2 ^ 4*(x/16)).testBit i<;>cases h4:(x%16).testBit i<;>simp_all
  rw [show (16:Nat)=2 ^ 4 from rfl]at *
  rw [h3,<- this]
 omega
theorem Z1 (x:Nat):EW x 4=(x/16) ^^^ tab.getD (x%16) 0:=by
 conv=>lhs;rw [TN x]
 rw [RH,JE,Ma _ (by omega)]
theorem RG (n j k:Nat):EW n (j+k)=EW (EW n j) k:=by
 induction k with
 | zero=>rfl
 | succ k ih=>show bs (EW n (j+k))=bs _;rw [ih]
/-- A byte by four bits twice,and by eight single bits. -/
theorem rk (n b:Nat) (hb:b<256):Q8 n b=EW (n ^^^ b) 8:=by
 rw [show 8=4+4 from rfl,RG,Z1 (n ^^^ b),Z1]
 unfold Q8 sq
 have e:(n ^^^ b)/16 ^^^ tab.getD ((n ^^^ b)%16) 0=(n/16 ^^^ tab.getD ((n ^^^ b)%16) 0) ^^^ (b/16):=by
  rw [zV,Ww,Ww,YE0 (b/16)]
 rw [e,zV _ (b/16),show b/16/16=0 by omega,YI0]
/-! ### One byte that is another one -/
theorem VO {a b:Nat} (ha:a<4294967296) (hb:b<4294967296) (h:bs a=bs b):a=b:=by
 have hx:bs (a ^^^ b)=0:=by rw [L9,h,YI1]
 have hl:a ^^^ b<4294967296:=qU ha hb
 have h0:a ^^^ b=0:=by
  generalize a ^^^ b=x at hx hl
  unfold bs at hx
  split at hx
  .have e:x/2=3988292384:=by
    have:=congrArg (· ^^^ 3988292384) hx
    simpa [Ww] using this
   omega
  .omega
 have e:a ^^^ (a ^^^ b)=b:=by rw [<- Ww,YI1,Nat.zero_xor]
 rw [h0,YI0]at e
 exact e
theorem Ir {a b:Nat} (k:Nat) (ha:a<4294967296) (hb:b<4294967296) (h:EW a k=EW b k):a=b:=by
 induction k with
 | zero=>exact h
 | succ k ih=>exact ih (VO (Mb ha k) (Mb hb k) h)
theorem xor_right_inj {a b c:Nat} (h:a ^^^ c=b ^^^ c):a=b:=by
 have:=congrArg (· ^^^ c) h
 simpa [Ww] using this
theorem Af {a b:Nat} (ha:a<4294967296) (hb:b<4294967296) (c:UInt8) (h:Q8 a c.toNat=Q8 b c.toNat):a=b:=by
 have hc:c.toNat<256:=c.toNat_lt
 rw [rk _ _ hc,rk _ _ hc]at h
 exact xor_right_inj (Ir 8 (qU ha (by omega)) (qU hb (by omega)) h)
theorem xS {a:Nat} (ha:a<4294967296) (c d:UInt8) (h:Q8 a c.toNat=Q8 a d.toNat):c=d:=by
 have hc:c.toNat<256:=c.toNat_lt
 have hd:d.toNat<256:=d.toNat_lt
 rw [rk _ _ hc,rk _ _ hd]at h
 have:=Ir 8 (qU ha (by omega)) (qU ha (by omega)) h
 rw [YE0 a,YE0 a]at this
 exact UInt8.toNat_inj.1 (xor_right_inj this)
theorem Bs (l:List UInt8):∀ {a b:Nat},a<4294967296->b<4294967296->raw a l=raw b l->a=b:=by
 induction l with
 | nil=>intro a b _ _ h;exact h
 | cons c l ih=>intro a b ha hb h;exact Af ha hb c (ih (vR ha _) (vR hb _) h)
/-- One byte that is another one is found. -/
theorem aeI (l m:List UInt8) (c d:UInt8) (h:c≠d):sum (l ++ c :: m)≠sum (l ++ d :: m):=by
 intro e
 unfold sum at e
 have hn:raw 4294967295 l<4294967296:=xq l (by decide)
 have h1:raw 4294967295 (l ++ c :: m)<4294967296:=xq _ (by decide)
 have h2:raw 4294967295 (l ++ d :: m)<4294967296:=xq _ (by decide)
 have e2:raw 4294967295 (l ++ c :: m)=raw 4294967295 (l ++ d :: m):=by omega
 rw [xm,xm,xo,xo]at e2
 exact h (xS hn c d (Bs m (vR hn _) (vR hn _) e2))
end Go.Crc
