/- crc: contracts of the program's Sum and Seal,and of the document's Sum. -/
import Derived.Test.YtnndgkcpacpleaaGreatDoorProg
import Derived.Test.YtnndgkcpacpleaaGreatDoorCrcPlain
import Derived.Test.YtnndgkcpacpleaaGreatDoorBase
import Derived.WalkKit
import Derived.ProofKit
import Derived.WalkLawsBesides
import Derived.WalkSpells
import Derived.Outline
import Derived.Deep.QuietTactic
import Derived.BigQuiet
import Derived.RegionTactic
import Derived.ChangeAlike
import Derived.Lib.Hide
import Derived.Laws.BitsAllLaws
namespace Go.Proofs.YtnndgkcpacpleaaGreatDoor
open Go.RowKit Go.Wd
/-- The table's row. -/
def kV:Array Value:=⟨Crc.rJ.map λ(n:Nat)=>Value.int .u32 (n:Int)⟩
theorem Oz (k:Nat) (hk:k<16):kV[k]? = some (.int .u32 ((Crc.rJ.getD k 0:Nat):Int)):=by
 match k,hk with
 | 0,_ | 1,_ | 2,_ | 3,_ | 4,_ | 5,_ | 6,_ | 7,_ | 8,_ | 9,_ | 10,_ | 11,_ | 12,_ | 13,_ | 14,_ | 15,_=>rfl
 | k+16,h=>exact absurd h (by omega)
theorem W5 (n c:Nat) (hc:c<256):bits .and .u8 (bits .xor .u8 ((n:Int)%256) (c:Int)) 15=(((n ^^^ c)%16:Nat):Int):=by
 rw [show ((n:Int)%256)=((n%256:Nat):Int) by omega,u8_xor_nat _ _ (by omega) hc]
 have hx:(n%256) ^^^ c<256:=Nat.xor_lt_two_pow (n:=8) (by omega) hc
 have:=u8_and_nat ((n%256) ^^^ c) 15 hx (by omega)
 rw [show ((15:Nat):Int)=15 from rfl]at this
 rw [this,nat_mask4,Crc.qB,Crc.qB n,Nat.mod_mod_of_dvd _ (by decide)]
theorem aaY (n c:Nat) (hn:n<4294967296):bits .xor .u32 ((n:Int)/16) ((Crc.rJ.getD ((n ^^^ c)%16) 0:Nat):Int)=((Crc.tc n c:Nat):Int):=by
 have:=Crc.TQ ((n ^^^ c)%16)
 rw [show ((n:Int)/16)=((n/16:Nat):Int) by omega,u32_xor_nat _ _ (by omega) this]
 rfl
theorem Gk (w:World) (bn bl n c:Nat) (hn:n<4294967296) (hc:c<256) (hN:Own w bn #[.int .u32 n] 235) (hL:Own w bl kV 272):
 Calls Tryz.prog 237 #[.int .u8 c,.pointer (some ⟨bn,0,none⟩),.pointer (some ⟨bl,0,none⟩)] w λe w'=>
  e = .returned (.tuple #[])/\w'=(w.setCell ⟨bn,0,none⟩ (.int .u32 (Crc.tc n c:Nat))).drew:=by
 have h1:=hN.EB (i:=0) (v:=.int .u32 n) rfl
 have hf:=hN.free 0
 have hk:(n ^^^ c)%16<16:=by omega
 have h2:=hL.EB (Oz _ hk)
 have e1:=W5 n c hc
 have i1:(0:Int)<=(((n ^^^ c)%16:Nat):Int):=by omega
 have i2:(((n ^^^ c)%16:Nat):Int)<16:=by omega
 have e2:=aaY n c hn
 generalize Crc.rJ.getD ((n ^^^ c)%16) 0=t at *
 clear hN hL
 go_enter Tryz.func237,Tryz.ntmps237
 go_wp2_with fail
 go_region
 go_end0
 exact ⟨rfl,rfl⟩
theorem rK:kV = #[.int .u32 0,.int .u32 498536548,.int .u32 997073096,.int .u32 651767980,.int .u32 1994146192,.int .u32 1802195444,.int .u32 1303535960,.int .u32 1342533948,.int .u32 3988292384,.int .u32 4027552580,.int .u32 3604390888,.int .u32 3412177804,.int .u32 2607071920,.int .u32 2262029012,.int .u32 2685067896,.int .u32 3183342108]:=rfl
theorem RP (w:World):
 Calls Tryz.prog 236 #[] w λe w'=>e = .returned (.agg kV)/\Below w.heap.size w w':=by
 go_enter Tryz.func236,Tryz.ntmps236
 go_wp2_with fail
 refine bodyPost_ret (v:=.agg kV) (by rw [rK];simp [results,Tryz.results236,go_sem]) rfl ⟨rfl,(Below.refl _ _).alloc (Nat.le_refl _) _⟩
theorem ME (s:ByteArray) (w:World) (hs:s.size<=140737488355328):
 Calls Tryz.prog 228 #[.string s] w λe w'=>e = .returned (.int .u32 (Crc.sum s.data.toList:Nat))/\Below w.heap.size w w':=by
 go_enter Tryz.func228,Tryz.ntmps228
 go_wp2_with fail
 refine (RP _).mono ?_
 rintro e w1 ⟨rfl,hb1⟩
 rw [rK]
 go_wp2_with fail
 have oL:Own ((w1.alloc (Obj.cells kV 272)).alloc (Obj.cells #[Value.int IntKind.u32 4294967295] 235)) w1.heap.size kV 272:=(Own.new _ _ _).alloc _
 have oN:Own ((w1.alloc (Obj.cells kV 272)).alloc (Obj.cells #[Value.int IntKind.u32 4294967295] 235)) (w1.heap.size+1) #[Value.int IntKind.u32 4294967295] 235:=by
  have:=Own.new (w1.alloc (Obj.cells kV 272)) #[Value.int IntKind.u32 4294967295] 235
  rwa [World.size_alloc]at this
 have bW:Below w.heap.size w ((w1.alloc (Obj.cells kV 272)).alloc (Obj.cells #[Value.int IntKind.u32 4294967295] 235)):=(hb1.alloc hb1.size _).alloc (by have:=hb1.size;simp;omega) _
 rw [<- rK]
 have hsz:=hb1.size
 go_loopw [6,11,12,13,14,15,16,17,18,19,20,21,22,23,24,25] (λ_ i _ _ _ _ _ _ _ _ _ _ _ _ _ _ wr=>∃ k:Nat,k<=s.size/\i = .int .i64 k/\
  Own wr (w1.heap.size+1) #[.int .u32 (Crc.raw 4294967295 (s.data.toList.take k):Nat)] 235/\Own wr w1.heap.size kV 272/\Below w.heap.size w wr)
  (λ_ i _ _ _ _ _ _ _ _ _ _ _ _ _ _ _=>s.size-(intOf i).toNat)
 case atStart=>exact ⟨0,Nat.zero_le _,rfl,oN,oL,bW⟩
 case round=>
  obtain ⟨k,hk,rfl,hN,hL,hB⟩:=hrel
  clear oL oN bW hb1
  by_cases hlt:k<s.size
  .have hraw:Crc.raw 4294967295 (s.data.toList.take (k+1))=Crc.tc (Crc.tc (Crc.raw 4294967295 (s.data.toList.take k)) s[k].toNat) (s[k].toNat/16):=by
    rw [List.take_succ_eq_append_getElem (by simpa using hlt),Crc.Tf];rfl
   have hn:Crc.raw 4294967295 (s.data.toList.take k)<4294967296:=Crc.yz _ (by decide)
   have hn2:Crc.tc (Crc.raw 4294967295 (s.data.toList.take k)) s[k].toNat<4294967296:=Crc.Kb hn _
   have hc:s[k].toNat<256:=s[k].toNat_lt
   have Hraw:=Lib.hid hraw
   clear hraw
   generalize Crc.raw 4294967295 (s.data.toList.take k)=n at *
   go_wp2_with fail
   refine (Gk _ (w1.heap.size+1) w1.heap.size n s[k].toNat hn hc hN hL).mono ?_
   rintro e w2 ⟨rfl,rfl⟩
   have hN2:=(hN.setCell 0 (.int .u32 (Crc.tc n s[k].toNat:Nat))).drew
   have hL2:=(hL.setOther (a:=⟨w1.heap.size+1,0,none⟩) (by simp) (.int .u32 (Crc.tc n s[k].toNat:Nat))).drew
   have hB2:=(hB.setCell (p:=⟨w1.heap.size+1,0,none⟩) (by simp;omega) (.int .u32 (Crc.tc n s[k].toNat:Nat))).drew
   clear hN hL hB
   generalize (wr.setCell ⟨w1.heap.size+1,0,none⟩ (.int .u32 (Crc.tc n s[k].toNat:Nat))).drew=wr2 at *
   go_wp2_with fail
   rw [show ((s[k].toNat:Int)/16)=((s[k].toNat/16:Nat):Int) by omega]
   refine (Gk _ (w1.heap.size+1) w1.heap.size (Crc.tc n s[k].toNat) (s[k].toNat/16) hn2 (by omega) hN2 hL2).mono ?_
   rintro e w2 ⟨rfl,rfl⟩
   have hN3:=(hN2.setCell 0 (.int .u32 (Crc.tc (Crc.tc n s[k].toNat) (s[k].toNat/16):Nat))).drew
   have hL3:=(hL2.setOther (a:=⟨w1.heap.size+1,0,none⟩) (by simp) (.int .u32 (Crc.tc (Crc.tc n s[k].toNat) (s[k].toNat/16):Nat))).drew
   have hB3:=(hB2.setCell (p:=⟨w1.heap.size+1,0,none⟩) (by simp;omega) (.int .u32 (Crc.tc (Crc.tc n s[k].toNat) (s[k].toNat/16):Nat))).drew
   clear hN2 hL2 hB2
   generalize (wr2.setCell ⟨w1.heap.size+1,0,none⟩ (.int .u32 (Crc.tc (Crc.tc n s[k].toNat) (s[k].toNat/16):Nat))).drew=wr3 at *
   go_wp2_with fail
   go_roundw
   case rel=>exact ⟨k+1,by omega,by go_num,by rw [Hraw.out];exact hN3,hL3,hB3⟩
   case measure=>simp [intOf];omega
  .obtain rfl:k=s.size:=by omega
   have hn:Crc.raw 4294967295 s.data.toList<4294967296:=Crc.yz _ (by decide)
   have hN':Own wr (w1.heap.size+1) #[.int .u32 (Crc.raw 4294967295 s.data.toList:Nat)] 235:=by
    have h:=hN
    rwa [List.take_of_length_le (by simp)]at h
   have hc:=hN'.EB (i:=0) (v:=.int .u32 (Crc.raw 4294967295 s.data.toList:Nat)) rfl
   have hx:bits .xor .u32 4294967295 ((Crc.raw 4294967295 s.data.toList:Nat):Int)=((Crc.sum s.data.toList:Nat):Int):=by
    have:=u32_xor_nat 4294967295 (Crc.raw 4294967295 s.data.toList) (by decide) hn
    rw [Crc.Un hn]at this
    exact this
   have Hx:=Lib.hid hx
   clear hN hL hN' hx
   generalize Crc.raw 4294967295 s.data.toList=n at *
   go_wp2_with fail
   go_ret
   exact ⟨by rw [<- Hx.out];rfl,hB⟩
end Go.Proofs.YtnndgkcpacpleaaGreatDoor
