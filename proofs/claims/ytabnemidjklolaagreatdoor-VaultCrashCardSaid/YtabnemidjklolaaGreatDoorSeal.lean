/- crc: Seal. -/
import Derived.Test.YtabnemidjklolaaGreatDoorCrc
import Derived.Laws.BytesString
namespace Go.Proofs.YtabnemidjklolaaGreatDoor
open Go.RowKit Go.Wd
def mD(n:Nat):List UInt8:=[UInt8.ofNat (n/16777216),UInt8.ofNat (n/65536),UInt8.ofNat (n/256),UInt8.ofNat n]
theorem nZ(n:Nat):(mD n).length=4:=rfl
theorem aad(l:List UInt8)(w:World)(hs:l.length<=140737488355328):Calls Tryz.prog 165 #[.string (gh l)] w λe w'=>e=.returned (.int .u32 (Crc.sum l:Nat))/\Below w.heap.size w w':=MP (gh l) w hs
set_option maxRecDepth 100000in theorem Vi(l:List UInt8)(w:World)(hs:l.length<=140737488355000):Calls Tryz.prog 152 #[.string (gh l)] w λe w'=>e=.returned (.string (gh (l++mD (Crc.sum l))))/\Below w.heap.size w w':=by have hlt:=Crc.Vz l;go_enter Tryz.func152,Tryz.ntmps152;go_wp2_with fail;refine(aad l _ (by omega)).mono ?_;rintro e w1⟨rfl,hb1⟩;have H:Hid (gh (l++mD (Crc.sum l))=gh (l++mD (Crc.sum l))):=rfl;generalize hn:Crc.sum l=n at hlt⊢;clear H;have Hn:=Lib.hid hn;clear hn;go_wp2_with fail;rw[show((n:Int)/16777216)=((UInt8.ofNat (n/16777216)).toNat:Int)by simp;omega,show((n:Int)/65536%256)=((UInt8.ofNat (n/65536)).toNat:Int)by simp,show((n:Int)/256%256)=((UInt8.ofNat (n/256)).toNat:Int)by simp,show((n:Int)%256)=((UInt8.ofNat n).toNat:Int)by simp];rw[lH (Own.new _ _ _) 102 9 5 0 4 4 (mD n) Tryz.underlying102 Tryz.underlying5 Tryz.underlying9 rfl (λj hj=>by match j,hj with|0,_|1,_|2,_|3,_=>rfl|j+4,h=>exact absurd h (by simp[mD]))];have h4:=nZ n;go_wp2_with fail;go_ret;exact⟨by rw[Hn.out];rfl,hb1.alloc hb1.size _⟩
end Go.Proofs.YtabnemidjklolaaGreatDoor
