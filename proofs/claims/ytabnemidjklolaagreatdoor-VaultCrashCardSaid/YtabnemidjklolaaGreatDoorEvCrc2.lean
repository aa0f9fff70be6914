/- crc.Sum,taken by its contract. -/
import Derived.Test.YtabnemidjklolaaGreatDoorEvD
import Derived.Test.YtabnemidjklolaaGreatDoorCrc
open Nat renaming shiftRight_eq_div_pow→WE
set_option linter.unusedVariables false
namespace Go.Proofs.YtabnemidjklolaaGreatDoor
open Go.RowKit Go.Wd Go.Ev
theorem xP(c b:Nat)(k:Nat->R):qH c b k=k (Crc.tZ c b):=by unfold qH;rw[ay];congr 1;show(c>>>4)^^^((9937593612760466100516450665319420528403982636753068485404800763335476026940182181175496972418787619281442302519629725716261212251300561153615832085954560>>>(32*((c^^^b)&&&15)))&&&4294967295)=c/16^^^Crc.qV.getD ((c^^^b)%16) 0;rw[WE,show(15:Nat)=2^4-1from rfl,Nat.and_two_pow_sub_one_eq_mod];have h:(c^^^b)%2^4<16:=Nat.mod_lt _ (by decide);show _=c/2^4^^^Crc.qV.getD ((c^^^b)%2^4) 0;generalize(c^^^b)%2^4=q at*;congr 1;match q,h with|0,_|1,_|2,_|3,_|4,_|5,_|6,_|7,_|8,_|9,_|10,_|11,_|12,_|13,_|14,_|15,_=>rfl|q+16,h=>exact absurd h (by omega)
theorem agH(n b:Nat):Crc.tZ n (b%256)=Crc.tZ n b:=by unfold Crc.tZ;rw[Crc.qZ,Crc.qZ n b,Nat.mod_mod_of_dvd _ (by decide)]
theorem xQ:∀(l n c:Nat)(k:Nat->R),wV l n c k=k (Crc.raw c (aF l n))|0,n,c,k=>rfl|l+1,n,c,k=>by show av (Nat.mod n 256) (λb=>av (Nat.div n 256) λn'=>qH c b λc=>qH c (Nat.shiftRight b 4) λc=>wV l n' c k)=_;rw[ay,ay,xP,xP,xQ l];show k (Crc.raw (Crc.tZ (Crc.tZ c (n%256)) ((n%256)>>>4)) (aF l (n/256)))=k (Crc.raw c (UInt8.ofNat (n%256)::aF l (n/256)));rw[Crc.zB,toNat_byte,WE];rfl
theorem O3:vq Tryz.prog 165 Uv:=λargs H k h=>by
 obtain⟨l,n,rfl,hl,h3⟩:=Uw h;rw[xQ,ay]at h3;refine⟨_,H,iR.qg Tryz.func165 rfl rfl λbase w0 rho w cargs hp hv=>?_,h3⟩;obtain⟨rfl,hn⟩:=wy hv;have hlt:=Crc.Vz (aF l n);refine⟨.int .u32 (Crc.sum (aF l n):Nat),?_,MP ⟨(aF l n).toArray⟩ w ?_⟩;.simp only[VR];exact⟨by show Value.int .u32 _=Value.int .u32 (toI .u32 _);rw[toI_nat rfl (by exact hlt)];rfl,hlt,by decide⟩
 .show(aF l n).toArray.size<=_;rw[List.size_toArray,aL];omega
end Go.Proofs.YtabnemidjklolaaGreatDoor
