/- crc.Sum,taken by its contract. -/
import Derived.Test.YtalmhjlkdhlbiaaGreatDoorEvD
import Derived.Test.YtalmhjlkdhlbiaaGreatDoorCrc
open Nat renaming shiftRight_eq_div_pow → Yy
set_option linter.unusedVariables false
set_option linter.unusedSimpArgs false
set_option linter.unusedSectionVars false
namespace Go.Proofs.YtalmhjlkdhlbiaaGreatDoor
open Go.RowKit Go.Wd Go.Ev
theorem wh (c b:Nat) (k:Nat->R):pv c b k=k (Crc.sq c b):=by
 unfold pv
 rw [ay]
 congr 1
 show (c >>> 4) ^^^ ((9937593612760466100516450665319420528403982636753068485404800763335476026940182181175496972418787619281442302519629725716261212251300561153615832085954560 >>> (32*((c ^^^ b) &&& 15))) &&& 4294967295)=c/16 ^^^ Crc.tab.getD ((c ^^^ b)%16) 0
 rw [Yy,show (15:Nat)=2 ^ 4-1 from rfl,Nat.and_two_pow_sub_one_eq_mod]
 have h:(c ^^^ b)%2 ^ 4<16:=Nat.mod_lt _ (by decide)
 show _=c/2 ^ 4 ^^^ Crc.tab.getD ((c ^^^ b)%2 ^ 4) 0
 generalize (c ^^^ b)%2 ^ 4=q at *
 congr 1
 match q,h with
 | 0,_ | 1,_ | 2,_ | 3,_ | 4,_ | 5,_ | 6,_ | 7,_ | 8,_ | 9,_ | 10,_ | 11,_ | 12,_ | 13,_ | 14,_ | 15,_=>rfl
 | q+16,h=>exact absurd h (by omega)
theorem ack (n b:Nat):Crc.sq n (b%256)=Crc.sq n b:=by
 unfold Crc.sq
 rw [Crc.pO,Crc.pO n b,Nat.mod_mod_of_dvd _ (by decide)]
theorem wj:∀ (l n c:Nat) (k:Nat->R),uZ l n c k=k (Crc.raw c (aC l n))
 | 0,n,c,k=>rfl
 | l+1,n,c,k=>by
  show av (Nat.mod n 256) (λb=>av (Nat.div n 256) λn'=>pv c b λc=>pv c (Nat.shiftRight b 4) λc=>uZ l n' c k)=_
  rw [ay,ay,wh,wh,wj l]
  show k (Crc.raw (Crc.sq (Crc.sq c (n%256)) ((n%256) >>> 4)) (aC l (n/256)))=k (Crc.raw c (UInt8.ofNat (n%256):: aC l (n/256)))
  rw [Crc.xo,toNat_byte,Yy]
  rfl
theorem Kk:tN Tryz.prog 176 Oz:=λargs H k h=>by
 obtain ⟨l,n,rfl,hl,h3⟩:=OA h
 rw [wj,ay]at h3
 refine ⟨_,H,gY.oH Tryz.func176 rfl rfl λbase w0 rho w cargs hp hv=>?_,h3⟩
 obtain ⟨rfl,hn⟩:=uD hv
 have hlt:=Crc.PK (aC l n)
 refine ⟨.int .u32 (Crc.sum (aC l n):Nat),?_,Jq ⟨(aC l n).toArray⟩ w ?_⟩
 .simp only [VR]
  exact ⟨by show Value.int .u32 _=Value.int .u32 (toI .u32 _);rw [toI_nat rfl (by exact hlt)];rfl,hlt,by decide⟩
 .show (aC l n).toArray.size<=_
  rw [List.size_toArray,aM]
  omega
end Go.Proofs.YtalmhjlkdhlbiaaGreatDoor
