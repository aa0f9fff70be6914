/- crc: Seal. -/
import Derived.Test.YtnndgkcpacpleaaGreatDoorCrc
import Derived.Laws.BytesString
namespace Go.Proofs.YtnndgkcpacpleaaGreatDoor
open Go.RowKit Go.Wd
def lW (n:Nat):List UInt8:=[UInt8.ofNat (n/16777216),UInt8.ofNat (n/65536),UInt8.ofNat (n/256),UInt8.ofNat n]
theorem nC (n:Nat):(lW n).length=4:=rfl
theorem Xo (l:List UInt8) (w:World) (hs:l.length<=140737488355328):
 Calls Tryz.prog 228 #[.string (fQ l)] w λe w'=>e = .returned (.int .u32 (Crc.sum l:Nat))/\Below w.heap.size w w':=ME (fQ l) w hs
set_option maxRecDepth 100000 in
theorem Tv (l:List UInt8) (w:World) (hs:l.length<=140737488355000):
 Calls Tryz.prog 213 #[.string (fQ l)] w λe w'=>e = .returned (.string (fQ (l ++ lW (Crc.sum l))))/\Below w.heap.size w w':=by
 have hlt:=Crc.TO l
 go_enter Tryz.func213,Tryz.ntmps213
 go_wp2_with fail
 refine (Xo l _ (by omega)).mono ?_
 rintro e w1 ⟨rfl,hb1⟩
 have H:Hid (fQ (l ++ lW (Crc.sum l))=fQ (l ++ lW (Crc.sum l))):=rfl
 generalize hn:Crc.sum l=n at hlt ⊢
 clear H
 have Hn:=Lib.hid hn
 clear hn
 go_wp2_with fail
 rw [show ((n:Int)/16777216)=((UInt8.ofNat (n/16777216)).toNat:Int) by simp;omega,
  show ((n:Int)/65536%256)=((UInt8.ofNat (n/65536)).toNat:Int) by simp,
  show ((n:Int)/256%256)=((UInt8.ofNat (n/256)).toNat:Int) by simp,
  show ((n:Int)%256)=((UInt8.ofNat n).toNat:Int) by simp]
 rw [kU (Own.new _ _ _) 64 9 5 0 4 4 (lW n) Tryz.underlying64 Tryz.underlying5 Tryz.underlying9 rfl (λj hj=>by
  match j,hj with
  | 0,_ | 1,_ | 2,_ | 3,_=>rfl
  | j+4,h=>exact absurd h (by simp [lW]))]
 have h4:=nC n
 go_wp2_with fail
 go_ret
 exact ⟨by rw [Hn.out];rfl,hb1.alloc hb1.size _⟩
end Go.Proofs.YtnndgkcpacpleaaGreatDoor
