/- CRC-32,plain: the sums by four bits and by single bits are one;one byte that is another one is found. No program in sight. -/
import Derived.WalkKit
open Nat renaming lt_of_lt_of_le→YF,shiftRight_eq_div_pow→WD,xor_assoc→QN,pow_le_pow_right→Qi,eq_of_testBit_eq→YG1,xor_comm→YG4,shiftRight_xor_distrib→YH4,mod_two_eq_zero_or_one→YI0,testBit_lt_two_pow→YK3,xor_zero→YK4,xor_self→YL0,xor_mod_two_pow→YN3,zero_testBit→YR0,testBit_xor→YR2,testBit_and→YR3
namespace Go.Crc
def rH:List Nat:=[0x00000000,0x1db71064,0x3b6e20c8,0x26d930ac,0x76dc4190,0x6b6b51f4,0x4db26158,0x5005713c,0xedb88320,0xf00f9344,0xd6d6a3e8,0xcb61b38c,0x9b64c2b0,0x86d3d2d4,0xa00ae278,0xbdbdf21c]
/-- Four bits are put in. -/
def sN (n c:Nat):Nat:=(n/16) ^^^ rH.getD ((n ^^^ c)%16) 0
/-- A byte is. -/
def Up (n b:Nat):Nat:=sN (sN n b) (b/16)
/-- The number behind bytes. -/
def raw (n:Nat) (l:List UInt8):Nat:=l.foldl (λn b=>Up n b.toNat) n
/-- The sum. -/
def sum (l:List UInt8):Nat:=4294967295-raw 4294967295 l
/-- One bit falls out. -/
def bs (n:Nat):Nat:=if n%2=1 then (n/2) ^^^ 3988292384 else n/2
def Hd(n:Nat):Nat->Nat|0=>n|k+1=>bs (Hd n k)
theorem TX(k:Nat):rH.getD k 0<4294967296:=by match k with|0|1|2|3|4|5|6|7|8|9|10|11|12|13|14|15=>decide|k+16=>simp[rH]
theorem rF{a b:Nat}(ha:a<4294967296)(hb:b<4294967296):a^^^b<4294967296:=Nat.xor_lt_two_pow (n:=32) ha hb
theorem I0{n:Nat}(h:n<4294967296)(c:Nat):sN n c<4294967296:=rF (by omega) (TX _)
theorem wz{n:Nat}(h:n<4294967296)(b:Nat):Up n b<4294967296:=I0 (I0 h _) _
theorem ye(l:List UInt8):∀{n:Nat},n<4294967296->raw n l<4294967296:=by induction l with|nil=>intro n h;exact h|cons b l ih=>intro n h;exact ih (wz h _)
theorem TV(l:List UInt8):sum l<4294967296:=by unfold sum;omega
theorem Tl(n:Nat)(l:List UInt8)(b:UInt8):raw n (l++[b])=Up (raw n l) b.toNat:=by simp[raw]
theorem yc(n:Nat)(l m:List UInt8):raw n (l++m)=raw (raw n l) m:=by simp[raw]
theorem yd(n:Nat)(b:UInt8)(l:List UInt8):raw n (b::l)=raw (Up n b.toNat) l:=rfl
theorem Um{n:Nat}(h:n<4294967296):4294967295^^^n=4294967295-n:=by
 have e:4294967295-n=2^32-(n+1):=by omega
 rw[e];apply YG1;intro i;rw[Nat.testBit_two_pow_sub_succ (by omega),YR2,show(4294967295:Nat)=2^32-1from rfl,Nat.testBit_two_pow_sub_one];by_cases hi:i<32;.simp[hi]
 .have:n.testBit i=false:=YK3 (YF h (Qi (by decide:0<2) (by omega:32<=i)));simp[hi,this]
/-!### Both ways are one -/
theorem acU{n:Nat}(h:n<4294967296):bs n<4294967296:=by
 unfold bs;split;.exact rF (by omega) (by decide)
 .omega
theorem Pr{n:Nat}(h:n<4294967296)(k:Nat):Hd n k<4294967296:=by induction k with|zero=>exact h|succ k ih=>exact acU ih
theorem Uk(a b:Nat):(a^^^b)/2=(a/2)^^^(b/2):=by have:=YH4 (a:=a) (b:=b) (i:=1);simpa[WD]using this
theorem Ul(a b:Nat):(a^^^b)%2=(a%2)^^^(b%2):=YN3 (n:=1) (a:=a) (b:=b)
theorem Bl(a b:Nat):(a^^^b)/16=(a/16)^^^(b/16):=by have:=YH4 (a:=a) (b:=b) (i:=4);simpa[WD]using this
theorem qo(a b:Nat):(a^^^b)%16=(a%16)^^^(b%16):=YN3 (n:=4) (a:=a) (b:=b)
theorem Pp(a b:Nat):bs (a^^^b)=bs a^^^bs b:=by
 unfold bs;rw[Uk,Ul];rcases YI0 a with ha|ha<;>rcases YI0 b with hb|hb<;>simp only[ha,hb];.simp
 .simp[QN]
 .simp only[if_true,show((0:Nat)=1)=False by simp,if_false,YK4];rw[QN,QN,YG4 (b/2)]
 .simp only[YL0,Nat.zero_ne_one,if_false,if_true];rw[QN,<-QN 3988292384,YG4 3988292384,QN,YL0,YK4]
theorem UL(a b k:Nat):Hd (a^^^b) k=Hd a k^^^Hd b k:=by induction k with|zero=>rfl|succ k ih=>simp only[Hd,ih,Pp]
theorem rQ(y:Nat):bs (2*y)=y:=by unfold bs;rw[if_neg (by omega)];omega
theorem L6(y:Nat):Hd (16*y) 4=y:=by show bs (bs (bs (bs (16*y))))=y;rw[show 16*y=2*(2*(2*(2*y)))by omega,rQ,rQ,rQ,rQ]
theorem Pq(k:Nat)(h:k<16):Hd k 4=rH.getD k 0:=by match k,h with|0,_|1,_|2,_|3,_|4,_|5,_|6,_|7,_|8,_|9,_|10,_|11,_|12,_|13,_|14,_|15,_=>decide|k+16,h=>exact absurd h (by omega)
theorem Xq(x:Nat):x=(16*(x/16))^^^(x%16):=by
 have h:(16*(x/16))^^^(x%16)=16*(x/16)+x%16:=by
  have:=Nat.two_pow_add_eq_or_of_lt (i:=4) (b:=x%16) (by omega) (x/16);have h2:(2^4*(x/16))&&&(x%16)=0:=by
   apply YG1;intro i;simp only[YR3,Nat.testBit_two_pow_mul,YR0];by_cases hi:4<=i;.have:(x%16).testBit i=false:=YK3 (YF (Nat.mod_lt _ (by decide)) (Qi (by decide:0<2) hi));simp[this]
   .simp[hi]
  have h3:(2^4*(x/16))^^^(x%16)=(2^4*(x/16))|||(x%16):=by apply YG1;intro i;have:=congrArg (λn=>Nat.testBit n i) h2;simp only[YR3,YR0]at this;simp only[YR2,Nat.testBit_or];cases h1:(2^4*(x/16)).testBit i<;>cases h4:(x%16).testBit i<;>simp_all
  rw[show(16:Nat)=2^4from rfl]at*;rw[h3,<-this]
 omega
theorem acV(x:Nat):Hd x 4=(x/16)^^^rH.getD (x%16) 0:=by
 conv=>lhs;rw[Xq x]
 rw[UL,L6,Pq _ (by omega)]
theorem UK(n j k:Nat):Hd n (j+k)=Hd (Hd n j) k:=by induction k with|zero=>rfl|succ k ih=>show bs (Hd n (j+k))=bs _;rw[ih]
/-- A byte by four bits twice,and by eight single bits. -/
theorem rR (n b:Nat) (hb:b<256):Up n b=Hd (n ^^^ b) 8:=by
 rw [show 8=4+4 from rfl,UK,acV (n ^^^ b),acV]
 unfold Up sN
 have e:(n ^^^ b)/16 ^^^ rH.getD ((n ^^^ b)%16) 0=(n/16 ^^^ rH.getD ((n ^^^ b)%16) 0) ^^^ (b/16):=by
  rw [Bl,QN,QN,YG4 (b/16)]
 rw [e,Bl _ (b/16),show b/16/16=0 by omega,YK4]
/-!### One byte that is another one -/
theorem aav{a b:Nat}(ha:a<4294967296)(hb:b<4294967296)(h:bs a=bs b):a=b:=by
 have hx:bs (a^^^b)=0:=by rw[Pp,h,YL0]
 have hl:a^^^b<4294967296:=rF ha hb;have h0:a^^^b=0:=by
  generalize a^^^b=x at hx hl;unfold bs at hx;split at hx
  .have e:x/2=3988292384:=by have:=congrArg (·^^^3988292384) hx;simpa[QN]using this
   omega
  .omega
 have e:a^^^(a^^^b)=b:=by rw[<-QN,YL0,Nat.zero_xor]
 rw[h0,YK4]at e;exact e
theorem Kc{a b:Nat}(k:Nat)(ha:a<4294967296)(hb:b<4294967296)(h:Hd a k=Hd b k):a=b:=by induction k with|zero=>exact h|succ k ih=>exact ih (aav (Pr ha k) (Pr hb k) h)
theorem xor_right_inj{a b c:Nat}(h:a^^^c=b^^^c):a=b:=by have:=congrArg (·^^^c) h;simpa[QN]using this
theorem Bp{a b:Nat}(ha:a<4294967296)(hb:b<4294967296)(c:UInt8)(h:Up a c.toNat=Up b c.toNat):a=b:=by have hc:c.toNat<256:=c.toNat_lt;rw[rR _ _ hc,rR _ _ hc]at h;exact xor_right_inj (Kc 8 (rF ha (by omega)) (rF hb (by omega)) h)
theorem yQ{a:Nat}(ha:a<4294967296)(c d:UInt8)(h:Up a c.toNat=Up a d.toNat):c=d:=by have hc:c.toNat<256:=c.toNat_lt;have hd:d.toNat<256:=d.toNat_lt;rw[rR _ _ hc,rR _ _ hd]at h;have:=Kc 8 (rF ha (by omega)) (rF ha (by omega)) h;rw[YG4 a,YG4 a]at this;exact UInt8.toNat_inj.1 (xor_right_inj this)
theorem Cu(l:List UInt8):∀{a b:Nat},a<4294967296->b<4294967296->raw a l=raw b l->a=b:=by induction l with|nil=>intro a b _ _ h;exact h|cons c l ih=>intro a b ha hb h;exact Bp ha hb c (ih (wz ha _) (wz hb _) h)
/-- One byte that is another one is found. -/
theorem agG (l m:List UInt8) (c d:UInt8) (h:c≠d):sum (l ++ c :: m)≠sum (l ++ d :: m):=by
 intro e
 unfold sum at e
 have hn:raw 4294967295 l<4294967296:=ye l (by decide)
 have h1:raw 4294967295 (l ++ c :: m)<4294967296:=ye _ (by decide)
 have h2:raw 4294967295 (l ++ d :: m)<4294967296:=ye _ (by decide)
 have e2:raw 4294967295 (l ++ c :: m)=raw 4294967295 (l ++ d :: m):=by omega
 rw [yc,yc,yd,yd]at e2
 exact h (yQ hn c d (Cu m (wz hn _) (wz hn _) e2))
end Go.Crc
