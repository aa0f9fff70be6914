/- crc.Sum,taken by its contract. -/
import Derived.Test.YtalmhjlkdhlbiaaGreatDoorEvD
import Derived.Test.YtalmhjlkdhlbiaaGreatDoorCrc
open Nat renaming shiftRight_eq_div_pow → WA
set_option linter.unusedVariables false
namespace Go.Proofs.YtalmhjlkdhlbiaaGreatDoor
open Go.RowKit Go.Wd Go.Ev
theorem vV (c b:Nat) (k:Nat->R):pG c b k=k (Crc.sJ c b):=by
 unfold pG
 rw [aw]
 congr 1
 show (c >>> 4) ^^^ ((9937593612760466100516450665319420528403982636753068485404800763335476026940182181175496972418787619281442302519629725716261212251300561153615832085954560 >>> (32*((c ^^^ b) &&& 15))) &&& 4294967295)=c/16 ^^^ Crc.tab.getD ((c ^^^ b)%16) 0
 rw [WA,show (15:Nat)=2 ^ 4-1 from rfl,Nat.and_two_pow_sub_one_eq_mod]
 have h:(c ^^^ b)%2 ^ 4<16:=Nat.mod_lt _ (by decide)
 show _=c/2 ^ 4 ^^^ Crc.tab.getD ((c ^^^ b)%2 ^ 4) 0
 generalize (c ^^^ b)%2 ^ 4=q at *
 congr 1
 match q,h with
 | 0,_ | 1,_ | 2,_ | 3,_ | 4,_ | 5,_ | 6,_ | 7,_ | 8,_ | 9,_ | 10,_ | 11,_ | 12,_ | 13,_ | 14,_ | 15,_=>rfl
 | q+16,h=>exact absurd h (by omega)
theorem acH (n b:Nat):Crc.sJ n (b%256)=Crc.sJ n b:=by
 unfold Crc.sJ
 rw [Crc.pX,Crc.pX n b,Nat.mod_mod_of_dvd _ (by decide)]
theorem vW:∀ (l n c:Nat) (k:Nat->R),uQ l n c k=k (Crc.raw c (aA l n))
 | 0,n,c,k=>rfl
 | l+1,n,c,k=>by
  show av (Nat.mod n 256) (λb=>av (Nat.div n 256) λn'=>pG c b λc=>pG c (Nat.shiftRight b 4) λc=>uQ l n' c k)=_
  rw [aw,aw,vV,vV,vW l]
  show k (Crc.raw (Crc.sJ (Crc.sJ c (n%256)) ((n%256) >>> 4)) (aA l (n/256)))=k (Crc.raw c (UInt8.ofNat (n%256):: aA l (n/256)))
  rw [Crc.xo,toNat_byte,WA]
  rfl
theorem KM:tP Tryz.prog 176 Ot:=λargs H k h=>by
 obtain ⟨l,n,rfl,hl,h3⟩:=Ou h
 rw [vW,aw]at h3
 refine ⟨_,H,ia.oW Tryz.func176 rfl rfl λbase w0 rho w cargs hp hv=>?_,h3⟩
 obtain ⟨rfl,hn⟩:=uB hv
 have hlt:=Crc.PJ (aA l n)
 refine ⟨.int .u32 (Crc.sum (aA l n):Nat),?_,JO ⟨(aA l n).toArray⟩ w ?_⟩
 .simp only [VR]
  exact ⟨by show Value.int .u32 _=Value.int .u32 (toI .u32 _);rw [toI_nat rfl (by exact hlt)];rfl,hlt,by decide⟩
 .show (aA l n).toArray.size<=_
  rw [List.size_toArray,aL]
  omega
end Go.Proofs.YtalmhjlkdhlbiaaGreatDoor
