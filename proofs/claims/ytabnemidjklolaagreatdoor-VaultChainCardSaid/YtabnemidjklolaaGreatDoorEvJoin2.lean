/- strings.Join,taken by its contract. -/
import Derived.Test.YtabnemidjklolaaGreatDoorEvD
import Derived.Test.YtabnemidjklolaaGreatDoorShelf
set_option linter.unusedVariables false
namespace Go.Proofs.YtabnemidjklolaaGreatDoor
open Go.RowKit Go.Ev
theorem xi(sep:List UInt8):∀(x:List UInt8)(r:List (List UInt8)),um sep (x::r)=x++Lib.joinTail sep r|x,[]=>by simp[um,Lib.joinTail]|x,y::r=>by have:=xi sep y r;show x++(sep++um sep (y::r))=_;rw[this];simp[Lib.joinTail]
theorem Sg(sep:List UInt8)(xs:List (List UInt8)):um sep xs=Lib.join xs sep:=by cases xs with|nil=>rfl|cons x r=>rw[xi,Lib.join_cons]
theorem Sh:GV Tryz.prog 144where MX:=⟨_,_,Tryz.func144,rfl,by kernel_rfl⟩;Ak a c sep w:=Tryz.strings_Join_none a c sep w;Y7 bk o c xs sep w hcells hbk hN hcap hlen:=by rw[Sg]at hlen⊢;exact Tryz.strings_Join bk o c xs sep w hcells hbk hN hcap hlen
end Go.Proofs.YtabnemidjklolaaGreatDoor
