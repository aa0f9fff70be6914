/- CRC-32,plain: the sums by four bits and by single bits are one;one byte that is another one is found. No program in sight. -/
import Derived.WalkKit
open Nat renaming lt_of_lt_of_le→YE,shiftRight_eq_div_pow→WE,xor_assoc→QN,pow_le_pow_right→Qo,eq_of_testBit_eq→YG3,xor_comm→YH1,shiftRight_xor_distrib→YI1,mod_two_eq_zero_or_one→YI2,testBit_lt_two_pow→YL3,xor_zero→YL4,xor_self→YM0,xor_mod_two_pow→YO3,zero_testBit→YR4,testBit_xor→YS1,testBit_and→YS2
namespace Go.Crc
def qV:List Nat:=[0x00000000,0x1db71064,0x3b6e20c8,0x26d930ac,0x76dc4190,0x6b6b51f4,0x4db26158,0x5005713c,0xedb88320,0xf00f9344,0xd6d6a3e8,0xcb61b38c,0x9b64c2b0,0x86d3d2d4,0xa00ae278,0xbdbdf21c]
/-- Four bits are put in. -/
def tZ (n c:Nat):Nat:=(n/16) ^^^ qV.getD ((n ^^^ c)%16) 0
/-- A byte is. -/
def W7 (n b:Nat):Nat:=tZ (tZ n b) (b/16)
/-- The number behind bytes. -/
def raw (n:Nat) (l:List UInt8):Nat:=l.foldl (λn b=>W7 n b.toNat) n
/-- The sum. -/
def sum (l:List UInt8):Nat:=4294967295-raw 4294967295 l
/-- One bit falls out. -/
def bs (n:Nat):Nat:=if n%2=1 then (n/2) ^^^ 3988292384 else n/2
def IL(n:Nat):Nat->Nat|0=>n|k+1=>bs (IL n k)
theorem VE(k:Nat):qV.getD k 0<4294967296:=by match k with|0|1|2|3|4|5|6|7|8|9|10|11|12|13|14|15=>decide|k+16=>simp[qV]
theorem sF{a b:Nat}(ha:a<4294967296)(hb:b<4294967296):a^^^b<4294967296:=Nat.xor_lt_two_pow (n:=32) ha hb
theorem Kk{n:Nat}(h:n<4294967296)(c:Nat):tZ n c<4294967296:=sF (by omega) (VE _)
theorem xB{n:Nat}(h:n<4294967296)(b:Nat):W7 n b<4294967296:=Kk (Kk h _) _
theorem zC(l:List UInt8):∀{n:Nat},n<4294967296->raw n l<4294967296:=by induction l with|nil=>intro n h;exact h|cons b l ih=>intro n h;exact ih (xB h _)
theorem Vz(l:List UInt8):sum l<4294967296:=by unfold sum;omega
theorem UZ(n:Nat)(l:List UInt8)(b:UInt8):raw n (l++[b])=W7 (raw n l) b.toNat:=by simp[raw]
theorem zA(n:Nat)(l m:List UInt8):raw n (l++m)=raw (raw n l) m:=by simp[raw]
theorem zB(n:Nat)(b:UInt8)(l:List UInt8):raw n (b::l)=raw (W7 n b.toNat) l:=rfl
theorem V8{n:Nat}(h:n<4294967296):4294967295^^^n=4294967295-n:=by
 have e:4294967295-n=2^32-(n+1):=by omega
 rw[e];apply YG3;intro i;rw[Nat.testBit_two_pow_sub_succ (by omega),YS1,show(4294967295:Nat)=2^32-1from rfl,Nat.testBit_two_pow_sub_one];by_cases hi:i<32;.simp[hi]
 .have:n.testBit i=false:=YL3 (YE h (Qo (by decide:0<2) (by omega:32<=i)));simp[hi,this]
/-!### Both ways are one -/
theorem aef{n:Nat}(h:n<4294967296):bs n<4294967296:=by
 unfold bs;split;.exact sF (by omega) (by decide)
 .omega
theorem RX{n:Nat}(h:n<4294967296)(k:Nat):IL n k<4294967296:=by induction k with|zero=>exact h|succ k ih=>exact aef ih
theorem V6(a b:Nat):(a^^^b)/2=(a/2)^^^(b/2):=by have:=YI1 (a:=a) (b:=b) (i:=1);simpa[WE]using this
theorem V7(a b:Nat):(a^^^b)%2=(a%2)^^^(b%2):=YO3 (n:=1) (a:=a) (b:=b)
theorem Co(a b:Nat):(a^^^b)/16=(a/16)^^^(b/16):=by have:=YI1 (a:=a) (b:=b) (i:=4);simpa[WE]using this
theorem qZ(a b:Nat):(a^^^b)%16=(a%16)^^^(b%16):=YO3 (n:=4) (a:=a) (b:=b)
theorem RU(a b:Nat):bs (a^^^b)=bs a^^^bs b:=by
 unfold bs;rw[V6,V7];rcases YI2 a with ha|ha<;>rcases YI2 b with hb|hb<;>simp only[ha,hb];.simp
 .simp[QN]
 .simp only[if_true,show((0:Nat)=1)=False by simp,if_false,YL4];rw[QN,QN,YH1 (b/2)]
 .simp only[YM0,Nat.zero_ne_one,if_false,if_true];rw[QN,<-QN 3988292384,YH1 3988292384,QN,YM0,YL4]
theorem Xx(a b k:Nat):IL (a^^^b) k=IL a k^^^IL b k:=by induction k with|zero=>rfl|succ k ih=>simp only[IL,ih,RU]
theorem sZ(y:Nat):bs (2*y)=y:=by unfold bs;rw[if_neg (by omega)];omega
theorem NC(y:Nat):IL (16*y) 4=y:=by show bs (bs (bs (bs (16*y))))=y;rw[show 16*y=2*(2*(2*(2*y)))by omega,sZ,sZ,sZ,sZ]
theorem RW(k:Nat)(h:k<16):IL k 4=qV.getD k 0:=by match k,h with|0,_|1,_|2,_|3,_|4,_|5,_|6,_|7,_|8,_|9,_|10,_|11,_|12,_|13,_|14,_|15,_=>decide|k+16,h=>exact absurd h (by omega)
theorem Z6(x:Nat):x=(16*(x/16))^^^(x%16):=by
 have h:(16*(x/16))^^^(x%16)=16*(x/16)+x%16:=by
  have:=Nat.two_pow_add_eq_or_of_lt (i:=4) (b:=x%16) (by omega) (x/16);have h2:(2^4*(x/16))&&&(x%16)=0:=by
   apply YG3;intro i;simp only[YS2,Nat.testBit_two_pow_mul,YR4];by_cases hi:4<=i;.have:(x%16).testBit i=false:=YL3 (YE (Nat.mod_lt _ (by decide)) (Qo (by decide:0<2) hi));simp[this]
   .simp[hi]
  have h3:(2^4*(x/16))^^^(x%16)=(2^4*(x/16))|||(x%16):=by apply YG3;intro i;have:=congrArg (λn=>Nat.testBit n i) h2;simp only[YS2,YR4]at this;simp only[YS1,Nat.testBit_or];cases h1:(2^4*(x/16)).testBit i<;>cases h4:(x%16).testBit i<;>simp_all
  rw[show(16:Nat)=2^4from rfl]at*;rw[h3,<-this]
 omega
theorem aeg(x:Nat):IL x 4=(x/16)^^^qV.getD (x%16) 0:=by
 conv=>lhs;rw[Z6 x]
 rw[Xx,NC,RW _ (by omega)]
theorem Xw(n j k:Nat):IL n (j+k)=IL (IL n j) k:=by induction k with|zero=>rfl|succ k ih=>show bs (IL n (j+k))=bs _;rw[ih]
/-- A byte by four bits twice,and by eight single bits. -/
theorem tc (n b:Nat) (hb:b<256):W7 n b=IL (n ^^^ b) 8:=by
 rw [show 8=4+4 from rfl,Xw,aeg (n ^^^ b),aeg]
 unfold W7 tZ
 have e:(n ^^^ b)/16 ^^^ qV.getD ((n ^^^ b)%16) 0=(n/16 ^^^ qV.getD ((n ^^^ b)%16) 0) ^^^ (b/16):=by
  rw [Co,QN,QN,YH1 (b/16)]
 rw [e,Co _ (b/16),show b/16/16=0 by omega,YL4]
/-!### One byte that is another one -/
theorem abX{a b:Nat}(ha:a<4294967296)(hb:b<4294967296)(h:bs a=bs b):a=b:=by
 have hx:bs (a^^^b)=0:=by rw[RU,h,YM0]
 have hl:a^^^b<4294967296:=sF ha hb;have h0:a^^^b=0:=by
  generalize a^^^b=x at hx hl;unfold bs at hx;split at hx
  .have e:x/2=3988292384:=by have:=congrArg (·^^^3988292384) hx;simpa[QN]using this
   omega
  .omega
 have e:a^^^(a^^^b)=b:=by rw[<-QN,YM0,Nat.zero_xor]
 rw[h0,YL4]at e;exact e
theorem Lt{a b:Nat}(k:Nat)(ha:a<4294967296)(hb:b<4294967296)(h:IL a k=IL b k):a=b:=by induction k with|zero=>exact h|succ k ih=>exact ih (abX (RX ha k) (RX hb k) h)
theorem xor_right_inj{a b c:Nat}(h:a^^^c=b^^^c):a=b:=by have:=congrArg (·^^^c) h;simpa[QN]using this
theorem Ct{a b:Nat}(ha:a<4294967296)(hb:b<4294967296)(c:UInt8)(h:W7 a c.toNat=W7 b c.toNat):a=b:=by have hc:c.toNat<256:=c.toNat_lt;rw[tc _ _ hc,tc _ _ hc]at h;exact xor_right_inj (Lt 8 (sF ha (by omega)) (sF hb (by omega)) h)
theorem Aq{a:Nat}(ha:a<4294967296)(c d:UInt8)(h:W7 a c.toNat=W7 a d.toNat):c=d:=by have hc:c.toNat<256:=c.toNat_lt;have hd:d.toNat<256:=d.toNat_lt;rw[tc _ _ hc,tc _ _ hd]at h;have:=Lt 8 (sF ha (by omega)) (sF ha (by omega)) h;rw[YH1 a,YH1 a]at this;exact UInt8.toNat_inj.1 (xor_right_inj this)
theorem DK(l:List UInt8):∀{a b:Nat},a<4294967296->b<4294967296->raw a l=raw b l->a=b:=by induction l with|nil=>intro a b _ _ h;exact h|cons c l ih=>intro a b ha hb h;exact Ct ha hb c (ih (xB ha _) (xB hb _) h)
/-- One byte that is another one is found. -/
theorem aid (l m:List UInt8) (c d:UInt8) (h:c≠d):sum (l ++ c :: m)≠sum (l ++ d :: m):=by
 intro e
 unfold sum at e
 have hn:raw 4294967295 l<4294967296:=zC l (by decide)
 have h1:raw 4294967295 (l ++ c :: m)<4294967296:=zC _ (by decide)
 have h2:raw 4294967295 (l ++ d :: m)<4294967296:=zC _ (by decide)
 have e2:raw 4294967295 (l ++ c :: m)=raw 4294967295 (l ++ d :: m):=by omega
 rw [zA,zA,zB,zB]at e2
 exact h (Aq hn c d (DK m (xB hn _) (xB hn _) e2))
end Go.Crc
