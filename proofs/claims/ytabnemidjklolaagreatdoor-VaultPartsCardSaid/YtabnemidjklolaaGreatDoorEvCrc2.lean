/- crc.Sum,taken by its contract. -/
import Derived.Test.YtabnemidjklolaaGreatDoorEvD
import Derived.Test.YtabnemidjklolaaGreatDoorCrc
open Nat renaming shiftRight_eq_div_pow→WD
set_option linter.unusedVariables false
namespace Go.Proofs.YtabnemidjklolaaGreatDoor
open Go.RowKit Go.Wd Go.Ev
theorem wN(c b:Nat)(k:Nat->R):pS c b k=k (Crc.sN c b):=by unfold pS;rw[ax];congr 1;show(c>>>4)^^^((9937593612760466100516450665319420528403982636753068485404800763335476026940182181175496972418787619281442302519629725716261212251300561153615832085954560>>>(32*((c^^^b)&&&15)))&&&4294967295)=c/16^^^Crc.rH.getD ((c^^^b)%16) 0;rw[WD,show(15:Nat)=2^4-1from rfl,Nat.and_two_pow_sub_one_eq_mod];have h:(c^^^b)%2^4<16:=Nat.mod_lt _ (by decide);show _=c/2^4^^^Crc.rH.getD ((c^^^b)%2^4) 0;generalize(c^^^b)%2^4=q at*;congr 1;match q,h with|0,_|1,_|2,_|3,_|4,_|5,_|6,_|7,_|8,_|9,_|10,_|11,_|12,_|13,_|14,_|15,_=>rfl|q+16,h=>exact absurd h (by omega)
theorem afn(n b:Nat):Crc.sN n (b%256)=Crc.sN n b:=by unfold Crc.sN;rw[Crc.qo,Crc.qo n b,Nat.mod_mod_of_dvd _ (by decide)]
theorem wO:∀(l n c:Nat)(k:Nat->R),vD l n c k=k (Crc.raw c (aD l n))|0,n,c,k=>rfl|l+1,n,c,k=>by show av (Nat.mod n 256) (λb=>av (Nat.div n 256) λn'=>pS c b λc=>pS c (Nat.shiftRight b 4) λc=>vD l n' c k)=_;rw[ax,ax,wN,wN,wO l];show k (Crc.raw (Crc.sN (Crc.sN c (n%256)) ((n%256)>>>4)) (aD l (n/256)))=k (Crc.raw c (UInt8.ofNat (n%256)::aD l (n/256)));rw[Crc.yd,toNat_byte,WD];rfl
theorem Nu:vZ Tryz.prog 165 SG:=λargs H k h=>by
 obtain⟨l,n,rfl,hl,h3⟩:=SH h;rw[wO,ax]at h3;refine⟨_,H,iv.pz Tryz.func165 rfl rfl λbase w0 rho w cargs hp hv=>?_,h3⟩;obtain⟨rfl,hn⟩:=uN hv;have hlt:=Crc.TV (aD l n);refine⟨.int .u32 (Crc.sum (aD l n):Nat),?_,Ll ⟨(aD l n).toArray⟩ w ?_⟩;.simp only[VR];exact⟨by show Value.int .u32 _=Value.int .u32 (toI .u32 _);rw[toI_nat rfl (by exact hlt)];rfl,hlt,by decide⟩
 .show(aD l n).toArray.size<=_;rw[List.size_toArray,aK];omega
end Go.Proofs.YtabnemidjklolaaGreatDoor
