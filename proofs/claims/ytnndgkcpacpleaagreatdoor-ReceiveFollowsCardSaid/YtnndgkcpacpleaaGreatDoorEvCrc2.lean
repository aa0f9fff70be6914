/- crc.Sum,taken by its contract. -/
import Derived.Test.YtnndgkcpacpleaaGreatDoorEvD
import Derived.Test.YtnndgkcpacpleaaGreatDoorCrc
open Nat renaming shiftRight_eq_div_pow → WG
set_option linter.unusedVariables false
namespace Go.Proofs.YtnndgkcpacpleaaGreatDoor
open Go.RowKit Go.Wd Go.Ev
theorem wY (c b:Nat) (k:Nat->R):qf c b k=k (Crc.tc c b):=by
 unfold qf
 rw [aw]
 congr 1
 show (c >>> 4) ^^^ ((9937593612760466100516450665319420528403982636753068485404800763335476026940182181175496972418787619281442302519629725716261212251300561153615832085954560 >>> (32*((c ^^^ b) &&& 15))) &&& 4294967295)=c/16 ^^^ Crc.rJ.getD ((c ^^^ b)%16) 0
 rw [WG,show (15:Nat)=2 ^ 4-1 from rfl,Nat.and_two_pow_sub_one_eq_mod]
 have h:(c ^^^ b)%2 ^ 4<16:=Nat.mod_lt _ (by decide)
 show _=c/2 ^ 4 ^^^ Crc.rJ.getD ((c ^^^ b)%2 ^ 4) 0
 generalize (c ^^^ b)%2 ^ 4=q at *
 congr 1
 match q,h with
 | 0,_ | 1,_ | 2,_ | 3,_ | 4,_ | 5,_ | 6,_ | 7,_ | 8,_ | 9,_ | 10,_ | 11,_ | 12,_ | 13,_ | 14,_ | 15,_=>rfl
 | q+16,h=>exact absurd h (by omega)
theorem afl (n b:Nat):Crc.tc n (b%256)=Crc.tc n b:=by
 unfold Crc.tc
 rw [Crc.qB,Crc.qB n b,Nat.mod_mod_of_dvd _ (by decide)]
theorem wZ:∀ (l n c:Nat) (k:Nat->R),vG l n c k=k (Crc.raw c (aB l n))
 | 0,n,c,k=>rfl
 | l+1,n,c,k=>by
  show au (Nat.mod n 256) (λb=>au (Nat.div n 256) λn'=>qf c b λc=>qf c (Nat.shiftRight b 4) λc=>vG l n' c k)=_
  rw [aw,aw,wY,wY,wZ l]
  show k (Crc.raw (Crc.tc (Crc.tc c (n%256)) ((n%256) >>> 4)) (aB l (n/256)))=k (Crc.raw c (UInt8.ofNat (n%256):: aB l (n/256)))
  rw [Crc.yx,toNat_byte,WG]
  rfl
theorem NQ:vZ Tryz.prog 228 Sz:=λargs H k h=>by
 obtain ⟨l,n,rfl,hl,h3⟩:=SA h
 rw [wZ,aw]at h3
 refine ⟨_,H,iu.pN Tryz.func228 rfl rfl λbase w0 rho w cargs hp hv=>?_,h3⟩
 obtain ⟨rfl,hn⟩:=uW hv
 have hlt:=Crc.TO (aB l n)
 refine ⟨.int .u32 (Crc.sum (aB l n):Nat),?_,ME ⟨(aB l n).toArray⟩ w ?_⟩
 .simp only [VR]
  exact ⟨by show Value.int .u32 _=Value.int .u32 (toI .u32 _);rw [toI_nat rfl (by exact hlt)];rfl,hlt,by decide⟩
 .show (aB l n).toArray.size<=_
  rw [List.size_toArray,aK]
  omega
end Go.Proofs.YtnndgkcpacpleaaGreatDoor
