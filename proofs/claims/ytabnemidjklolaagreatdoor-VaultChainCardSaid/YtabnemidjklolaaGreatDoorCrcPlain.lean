/- CRC-32,plain: the sums by four bits and by single bits are one;one byte that is another one is found. No program in sight. -/
import Derived.WalkKit
open Nat renaming lt_of_lt_of_le→YE,shiftRight_eq_div_pow→WD,xor_assoc→QM,pow_le_pow_right→Qm,eq_of_testBit_eq→YG2,xor_comm→YH0,shiftRight_xor_distrib→YH4,mod_two_eq_zero_or_one→YI0,testBit_lt_two_pow→YL3,xor_zero→YL4,xor_self→YM0,xor_mod_two_pow→YO3,zero_testBit→YR3,testBit_xor→YS0,testBit_and→YS1
namespace Go.Crc
def mH:List Nat:=[0x00000000,0x1db71064,0x3b6e20c8,0x26d930ac,0x76dc4190,0x6b6b51f4,0x4db26158,0x5005713c,0xedb88320,0xf00f9344,0xd6d6a3e8,0xcb61b38c,0x9b64c2b0,0x86d3d2d4,0xa00ae278,0xbdbdf21c]
/-- Four bits are put in. -/
def sH (n c:Nat):Nat:=(n/16) ^^^ mH.getD ((n ^^^ c)%16) 0
/-- A byte is. -/
def Ua (n b:Nat):Nat:=sH (sH n b) (b/16)
/-- The number behind bytes. -/
def raw (n:Nat) (l:List UInt8):Nat:=l.foldl (λn b=>Ua n b.toNat) n
/-- The sum. -/
def sum (l:List UInt8):Nat:=4294967295-raw 4294967295 l
/-- One bit falls out. -/
def bs (n:Nat):Nat:=if n%2=1 then (n/2) ^^^ 3988292384 else n/2
def GM(n:Nat):Nat->Nat|0=>n|k+1=>bs (GM n k)
theorem TJ(k:Nat):mH.getD k 0<4294967296:=by match k with|0|1|2|3|4|5|6|7|8|9|10|11|12|13|14|15=>decide|k+16=>simp[mH]
theorem rv{a b:Nat}(ha:a<4294967296)(hb:b<4294967296):a^^^b<4294967296:=Nat.xor_lt_two_pow (n:=32) ha hb
theorem IH{n:Nat}(h:n<4294967296)(c:Nat):sH n c<4294967296:=rv (by omega) (TJ _)
theorem wg{n:Nat}(h:n<4294967296)(b:Nat):Ua n b<4294967296:=IH (IH h _) _
theorem xT(l:List UInt8):∀{n:Nat},n<4294967296->raw n l<4294967296:=by induction l with|nil=>intro n h;exact h|cons b l ih=>intro n h;exact ih (wg h _)
theorem TF(l:List UInt8):sum l<4294967296:=by unfold sum;omega
theorem S8(n:Nat)(l:List UInt8)(b:UInt8):raw n (l++[b])=Ua (raw n l) b.toNat:=by simp[raw]
theorem xR(n:Nat)(l m:List UInt8):raw n (l++m)=raw (raw n l) m:=by simp[raw]
theorem xS(n:Nat)(b:UInt8)(l:List UInt8):raw n (b::l)=raw (Ua n b.toNat) l:=rfl
theorem T6{n:Nat}(h:n<4294967296):4294967295^^^n=4294967295-n:=by
 have e:4294967295-n=2^32-(n+1):=by omega
 rw[e];apply YG2;intro i;rw[Nat.testBit_two_pow_sub_succ (by omega),YS0,show(4294967295:Nat)=2^32-1from rfl,Nat.testBit_two_pow_sub_one];by_cases hi:i<32;.simp[hi]
 .have:n.testBit i=false:=YL3 (YE h (Qm (by decide:0<2) (by omega:32<=i)));simp[hi,this]
/-!### Both ways are one -/
theorem acw{n:Nat}(h:n<4294967296):bs n<4294967296:=by
 unfold bs;split;.exact rv (by omega) (by decide)
 .omega
theorem Pm{n:Nat}(h:n<4294967296)(k:Nat):GM n k<4294967296:=by induction k with|zero=>exact h|succ k ih=>exact acw ih
theorem T4(a b:Nat):(a^^^b)/2=(a/2)^^^(b/2):=by have:=YH4 (a:=a) (b:=b) (i:=1);simpa[WD]using this
theorem T5(a b:Nat):(a^^^b)%2=(a%2)^^^(b%2):=YO3 (n:=1) (a:=a) (b:=b)
theorem A0(a b:Nat):(a^^^b)/16=(a/16)^^^(b/16):=by have:=YH4 (a:=a) (b:=b) (i:=4);simpa[WD]using this
theorem qf(a b:Nat):(a^^^b)%16=(a%16)^^^(b%16):=YO3 (n:=4) (a:=a) (b:=b)
theorem Pj(a b:Nat):bs (a^^^b)=bs a^^^bs b:=by
 unfold bs;rw[T4,T5];rcases YI0 a with ha|ha<;>rcases YI0 b with hb|hb<;>simp only[ha,hb];.simp
 .simp[QM]
 .simp only[if_true,show((0:Nat)=1)=False by simp,if_false,YL4];rw[QM,QM,YH0 (b/2)]
 .simp only[YM0,Nat.zero_ne_one,if_false,if_true];rw[QM,<-QM 3988292384,YH0 3988292384,QM,YM0,YL4]
theorem UB(a b k:Nat):GM (a^^^b) k=GM a k^^^GM b k:=by induction k with|zero=>rfl|succ k ih=>simp only[GM,ih,Pj]
theorem rL(y:Nat):bs (2*y)=y:=by unfold bs;rw[if_neg (by omega)];omega
theorem LV(y:Nat):GM (16*y) 4=y:=by show bs (bs (bs (bs (16*y))))=y;rw[show 16*y=2*(2*(2*(2*y)))by omega,rL,rL,rL,rL]
theorem Pk(k:Nat)(h:k<16):GM k 4=mH.getD k 0:=by match k,h with|0,_|1,_|2,_|3,_|4,_|5,_|6,_|7,_|8,_|9,_|10,_|11,_|12,_|13,_|14,_|15,_=>decide|k+16,h=>exact absurd h (by omega)
theorem W8(x:Nat):x=(16*(x/16))^^^(x%16):=by
 have h:(16*(x/16))^^^(x%16)=16*(x/16)+x%16:=by
  have:=Nat.two_pow_add_eq_or_of_lt (i:=4) (b:=x%16) (by omega) (x/16);have h2:(2^4*(x/16))&&&(x%16)=0:=by
   apply YG2;intro i;simp only[YS1,Nat.testBit_two_pow_mul,YR3];by_cases hi:4<=i;.have:(x%16).testBit i=false:=YL3 (YE (Nat.mod_lt _ (by decide)) (Qm (by decide:0<2) hi));simp[this]
   .simp[hi]
  have h3:(2^4*(x/16))^^^(x%16)=(2^4*(x/16))|||(x%16):=by apply YG2;intro i;have:=congrArg (λn=>Nat.testBit n i) h2;simp only[YS1,YR3]at this;simp only[YS0,Nat.testBit_or];cases h1:(2^4*(x/16)).testBit i<;>cases h4:(x%16).testBit i<;>simp_all
  rw[show(16:Nat)=2^4from rfl]at*;rw[h3,<-this]
 omega
theorem acx(x:Nat):GM x 4=(x/16)^^^mH.getD (x%16) 0:=by
 conv=>lhs;rw[W8 x]
 rw[UB,LV,Pk _ (by omega)]
theorem UA(n j k:Nat):GM n (j+k)=GM (GM n j) k:=by induction k with|zero=>rfl|succ k ih=>show bs (GM n (j+k))=bs _;rw[ih]
/-- A byte by four bits twice,and by eight single bits. -/
theorem rM (n b:Nat) (hb:b<256):Ua n b=GM (n ^^^ b) 8:=by
 rw [show 8=4+4 from rfl,UA,acx (n ^^^ b),acx]
 unfold Ua sH
 have e:(n ^^^ b)/16 ^^^ mH.getD ((n ^^^ b)%16) 0=(n/16 ^^^ mH.getD ((n ^^^ b)%16) 0) ^^^ (b/16):=by
  rw [A0,QM,QM,YH0 (b/16)]
 rw [e,A0 _ (b/16),show b/16/16=0 by omega,YL4]
/-!### One byte that is another one -/
theorem Z4{a b:Nat}(ha:a<4294967296)(hb:b<4294967296)(h:bs a=bs b):a=b:=by
 have hx:bs (a^^^b)=0:=by rw[Pj,h,YM0]
 have hl:a^^^b<4294967296:=rv ha hb;have h0:a^^^b=0:=by
  generalize a^^^b=x at hx hl;unfold bs at hx;split at hx
  .have e:x/2=3988292384:=by have:=congrArg (·^^^3988292384) hx;simpa[QM]using this
   omega
  .omega
 have e:a^^^(a^^^b)=b:=by rw[<-QM,YM0,Nat.zero_xor]
 rw[h0,YL4]at e;exact e
theorem JX{a b:Nat}(k:Nat)(ha:a<4294967296)(hb:b<4294967296)(h:GM a k=GM b k):a=b:=by induction k with|zero=>exact h|succ k ih=>exact ih (Z4 (Pm ha k) (Pm hb k) h)
theorem xor_right_inj{a b c:Nat}(h:a^^^c=b^^^c):a=b:=by have:=congrArg (·^^^c) h;simpa[QM]using this
theorem A9{a b:Nat}(ha:a<4294967296)(hb:b<4294967296)(c:UInt8)(h:Ua a c.toNat=Ua b c.toNat):a=b:=by have hc:c.toNat<256:=c.toNat_lt;rw[rM _ _ hc,rM _ _ hc]at h;exact xor_right_inj (JX 8 (rv ha (by omega)) (rv hb (by omega)) h)
theorem yF{a:Nat}(ha:a<4294967296)(c d:UInt8)(h:Ua a c.toNat=Ua a d.toNat):c=d:=by have hc:c.toNat<256:=c.toNat_lt;have hd:d.toNat<256:=d.toNat_lt;rw[rM _ _ hc,rM _ _ hd]at h;have:=JX 8 (rv ha (by omega)) (rv ha (by omega)) h;rw[YH0 a,YH0 a]at this;exact UInt8.toNat_inj.1 (xor_right_inj this)
theorem Cc(l:List UInt8):∀{a b:Nat},a<4294967296->b<4294967296->raw a l=raw b l->a=b:=by induction l with|nil=>intro a b _ _ h;exact h|cons c l ih=>intro a b ha hb h;exact A9 ha hb c (ih (wg ha _) (wg hb _) h)
/-- One byte that is another one is found. -/
theorem agZ (l m:List UInt8) (c d:UInt8) (h:c≠d):sum (l ++ c :: m)≠sum (l ++ d :: m):=by
 intro e
 unfold sum at e
 have hn:raw 4294967295 l<4294967296:=xT l (by decide)
 have h1:raw 4294967295 (l ++ c :: m)<4294967296:=xT _ (by decide)
 have h2:raw 4294967295 (l ++ d :: m)<4294967296:=xT _ (by decide)
 have e2:raw 4294967295 (l ++ c :: m)=raw 4294967295 (l ++ d :: m):=by omega
 rw [xR,xR,xS,xS]at e2
 exact h (yF hn c d (Cc m (wg hn _) (wg hn _) e2))
end Go.Crc
