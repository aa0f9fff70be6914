/- CRC-32,plain: the sums by four bits and by single bits are one;one byte that is another one is found. No program in sight. -/
import Derived.WalkKit
open Nat renaming lt_of_lt_of_le → YD,shiftRight_eq_div_pow → WG,xor_assoc → QF,pow_le_pow_right → Qd,eq_of_testBit_eq → YD0,xor_comm → YD3,shiftRight_xor_distrib → YF3,mod_two_eq_zero_or_one → YF4,testBit_lt_two_pow → YI1,xor_zero → YI2,xor_self → YI3,xor_mod_two_pow → YL2,zero_testBit → YO3,testBit_xor → YP0,testBit_and → YP1
namespace Go.Crc
def rJ:List Nat:=[0x00000000,0x1db71064,0x3b6e20c8,0x26d930ac,0x76dc4190,0x6b6b51f4,0x4db26158,0x5005713c,0xedb88320,0xf00f9344,0xd6d6a3e8,0xcb61b38c,0x9b64c2b0,0x86d3d2d4,0xa00ae278,0xbdbdf21c]
/-- Four bits are put in. -/
def tc (n c:Nat):Nat:=(n/16) ^^^ rJ.getD ((n ^^^ c)%16) 0
/-- A byte is. -/
def Uq (n b:Nat):Nat:=tc (tc n b) (b/16)
/-- The number behind bytes. -/
def raw (n:Nat) (l:List UInt8):Nat:=l.foldl (λn b=>Uq n b.toNat) n
/-- The sum. -/
def sum (l:List UInt8):Nat:=4294967295-raw 4294967295 l
/-- One bit falls out. -/
def bs (n:Nat):Nat:=if n%2=1 then (n/2) ^^^ 3988292384 else n/2
def IK (n:Nat):Nat->Nat
 | 0=>n
 | k+1=>bs (IK n k)
theorem TQ (k:Nat):rJ.getD k 0<4294967296:=by
 match k with
 | 0 | 1 | 2 | 3 | 4 | 5 | 6 | 7 | 8 | 9 | 10 | 11 | 12 | 13 | 14 | 15=>decide
 | k+16=>simp [rJ]
theorem rN {a b:Nat} (ha:a<4294967296) (hb:b<4294967296):a ^^^ b<4294967296:=Nat.xor_lt_two_pow (n:=32) ha hb
theorem Kb {n:Nat} (h:n<4294967296) (c:Nat):tc n c<4294967296:=rN (by omega) (TQ _)
theorem wI {n:Nat} (h:n<4294967296) (b:Nat):Uq n b<4294967296:=Kb (Kb h _) _
theorem yz (l:List UInt8):∀ {n:Nat},n<4294967296->raw n l<4294967296:=by
 induction l with
 | nil=>intro n h;exact h
 | cons b l ih=>intro n h;exact ih (wI h _)
theorem TO (l:List UInt8):sum l<4294967296:=by unfold sum;omega
theorem Tf (n:Nat) (l:List UInt8) (b:UInt8):raw n (l ++ [b])=Uq (raw n l) b.toNat:=by simp [raw]
theorem yw (n:Nat) (l m:List UInt8):raw n (l ++ m)=raw (raw n l) m:=by simp [raw]
theorem yx (n:Nat) (b:UInt8) (l:List UInt8):raw n (b :: l)=raw (Uq n b.toNat) l:=rfl
theorem Un {n:Nat} (h:n<4294967296):4294967295 ^^^ n=4294967295-n:=by
 have e:4294967295-n=2 ^ 32-(n+1):=by omega
 rw [e]
 apply YD0
 intro i
 rw [Nat.testBit_two_pow_sub_succ (by omega),YP0,show (4294967295:Nat)=2 ^ 32-1 from rfl,Nat.testBit_two_pow_sub_one]
 by_cases hi:i<32
 .simp [hi]
 .have:n.testBit i=false:=YI1 (YD h (Qd (by decide:0<2) (by omega:32<=i)))
  simp [hi,this]
/-! ### afr ways are one -/
theorem ab8 {n:Nat} (h:n<4294967296):bs n<4294967296:=by
 unfold bs;split
 .exact rN (by omega) (by decide)
 .omega
theorem Pq {n:Nat} (h:n<4294967296) (k:Nat):IK n k<4294967296:=by
 induction k with
 | zero=>exact h
 | succ k ih=>exact ab8 ih
theorem Ul (a b:Nat):(a ^^^ b)/2=(a/2) ^^^ (b/2):=by
 have:=YF3 (a:=a) (b:=b) (i:=1)
 simpa [WG] using this
theorem Um (a b:Nat):(a ^^^ b)%2=(a%2) ^^^ (b%2):=YL2 (n:=1) (a:=a) (b:=b)
theorem Bn (a b:Nat):(a ^^^ b)/16=(a/16) ^^^ (b/16):=by
 have:=YF3 (a:=a) (b:=b) (i:=4)
 simpa [WG] using this
theorem qB (a b:Nat):(a ^^^ b)%16=(a%16) ^^^ (b%16):=YL2 (n:=4) (a:=a) (b:=b)
theorem Po (a b:Nat):bs (a ^^^ b)=bs a ^^^ bs b:=by
 unfold bs
 rw [Ul,Um]
 rcases YF4 a with ha|ha<;>rcases YF4 b with hb|hb<;>simp only [ha,hb]
 .simp
 .simp [QF]
 .simp only [if_true,show ((0:Nat)=1)=False by simp,if_false,YI2]
  rw [QF,QF,YD3 (b/2)]
 .simp only [YI3,Nat.zero_ne_one,if_false,if_true]
  rw [QF,<- QF 3988292384,YD3 3988292384,QF,YI3,YI2]
theorem UQ (a b k:Nat):IK (a ^^^ b) k=IK a k ^^^ IK b k:=by
 induction k with
 | zero=>rfl
 | succ k ih=>simp only [IK,ih,Po]
theorem se (y:Nat):bs (2*y)=y:=by unfold bs;rw [if_neg (by omega)];omega
theorem MU (y:Nat):IK (16*y) 4=y:=by
 show bs (bs (bs (bs (16*y))))=y
 rw [show 16*y=2*(2*(2*(2*y))) by omega,se,se,se,se]
theorem Pp (k:Nat) (h:k<16):IK k 4=rJ.getD k 0:=by
 match k,h with
 | 0,_ | 1,_ | 2,_ | 3,_ | 4,_ | 5,_ | 6,_ | 7,_ | 8,_ | 9,_ | 10,_ | 11,_ | 12,_ | 13,_ | 14,_ | 15,_=>decide
 | k+16,h=>exact absurd h (by omega)
theorem Xm (x:Nat):x=(16*(x/16)) ^^^ (x%16):=by
 have h:(16*(x/16)) ^^^ (x%16)=16*(x/16)+x%16:=by
  have:=Nat.two_pow_add_eq_or_of_lt (i:=4) (b:=x%16) (by omega) (x/16)
  have h2:(2 ^ 4*(x/16)) &&& (x%16)=0:=by
   apply YD0
   intro i
   simp only [YP1,Nat.testBit_two_pow_mul,YO3]
   by_cases hi:4<=i
   .have:(x%16).testBit i=false:=YI1 (YD (Nat.mod_lt _ (by decide)) (Qd (by decide:0<2) hi))
    simp [this]
   .simp [hi]
  have h3:(2 ^ 4*(x/16)) ^^^ (x%16)=(2 ^ 4*(x/16)) ||| (x%16):=by
   apply YD0
   intro i
   have:=congrArg (λn=>Nat.testBit n i) h2
   simp only [YP1,YO3]at this
   simp only [YP0,Nat.testBit_or]
   cases h1:(2 ^ 4*(x/16)).testBit i<;>cases h4:(x%16).testBit i<;>simp_all
  rw [show (16:Nat)=2 ^ 4 from rfl]at *
  rw [h3,<- this]
 omega
theorem ab9 (x:Nat):IK x 4=(x/16) ^^^ rJ.getD (x%16) 0:=by
 conv=>lhs;rw [Xm x]
 rw [UQ,MU,Pp _ (by omega)]
theorem UP (n j k:Nat):IK n (j+k)=IK (IK n j) k:=by
 induction k with
 | zero=>rfl
 | succ k ih=>show bs (IK n (j+k))=bs _;rw [ih]
/-- A byte by four bits twice,and by eight single bits. -/
theorem sf (n b:Nat) (hb:b<256):Uq n b=IK (n ^^^ b) 8:=by
 rw [show 8=4+4 from rfl,UP,ab9 (n ^^^ b),ab9]
 unfold Uq tc
 have e:(n ^^^ b)/16 ^^^ rJ.getD ((n ^^^ b)%16) 0=(n/16 ^^^ rJ.getD ((n ^^^ b)%16) 0) ^^^ (b/16):=by
  rw [Bn,QF,QF,YD3 (b/16)]
 rw [e,Bn _ (b/16),show b/16/16=0 by omega,YI2]
/-! ### One byte that is another one -/
theorem ZS {a b:Nat} (ha:a<4294967296) (hb:b<4294967296) (h:bs a=bs b):a=b:=by
 have hx:bs (a ^^^ b)=0:=by rw [Po,h,YI3]
 have hl:a ^^^ b<4294967296:=rN ha hb
 have h0:a ^^^ b=0:=by
  generalize a ^^^ b=x at hx hl
  unfold bs at hx
  split at hx
  .have e:x/2=3988292384:=by
    have:=congrArg (· ^^^ 3988292384) hx
    simpa [QF] using this
   omega
  .omega
 have e:a ^^^ (a ^^^ b)=b:=by rw [<- QF,YI3,Nat.zero_xor]
 rw [h0,YI2]at e
 exact e
theorem Lz {a b:Nat} (k:Nat) (ha:a<4294967296) (hb:b<4294967296) (h:IK a k=IK b k):a=b:=by
 induction k with
 | zero=>exact h
 | succ k ih=>exact ih (ZS (Pq ha k) (Pq hb k) h)
theorem xor_right_inj {a b c:Nat} (h:a ^^^ c=b ^^^ c):a=b:=by
 have:=congrArg (· ^^^ c) h
 simpa [QF] using this
theorem Bz {a b:Nat} (ha:a<4294967296) (hb:b<4294967296) (c:UInt8) (h:Uq a c.toNat=Uq b c.toNat):a=b:=by
 have hc:c.toNat<256:=c.toNat_lt
 rw [sf _ _ hc,sf _ _ hc]at h
 exact xor_right_inj (Lz 8 (rN ha (by omega)) (rN hb (by omega)) h)
theorem zj {a:Nat} (ha:a<4294967296) (c d:UInt8) (h:Uq a c.toNat=Uq a d.toNat):c=d:=by
 have hc:c.toNat<256:=c.toNat_lt
 have hd:d.toNat<256:=d.toNat_lt
 rw [sf _ _ hc,sf _ _ hd]at h
 have:=Lz 8 (rN ha (by omega)) (rN ha (by omega)) h
 rw [YD3 a,YD3 a]at this
 exact UInt8.toNat_inj.1 (xor_right_inj this)
theorem CN (l:List UInt8):∀ {a b:Nat},a<4294967296->b<4294967296->raw a l=raw b l->a=b:=by
 induction l with
 | nil=>intro a b _ _ h;exact h
 | cons c l ih=>intro a b ha hb h;exact Bz ha hb c (ih (wI ha _) (wI hb _) h)
/-- One byte that is another one is found. -/
theorem ago (l m:List UInt8) (c d:UInt8) (h:c≠d):sum (l ++ c :: m)≠sum (l ++ d :: m):=by
 intro e
 unfold sum at e
 have hn:raw 4294967295 l<4294967296:=yz l (by decide)
 have h1:raw 4294967295 (l ++ c :: m)<4294967296:=yz _ (by decide)
 have h2:raw 4294967295 (l ++ d :: m)<4294967296:=yz _ (by decide)
 have e2:raw 4294967295 (l ++ c :: m)=raw 4294967295 (l ++ d :: m):=by omega
 rw [yw,yw,yx,yx]at e2
 exact h (zj hn c d (CN m (wI hn _) (wI hn _) e2))
end Go.Crc
