/- strings.Join,taken by its contract. -/
import Derived.Test.YtabnemidjklolaaGreatDoorEvD
import Derived.Test.YtabnemidjklolaaGreatDoorShelf
set_option linter.unusedVariables false
namespace Go.Proofs.YtabnemidjklolaaGreatDoor
open Go.RowKit Go.Ev
theorem yE(sep:List UInt8):∀(x:List UInt8)(r:List (List UInt8)),vP sep (x::r)=x++Lib.joinTail sep r|x,[]=>by simp[vP,Lib.joinTail]|x,y::r=>by have:=yE sep y r;show x++(sep++vP sep (y::r))=_;rw[this];simp[Lib.joinTail]
theorem Uf(sep:List UInt8)(xs:List (List UInt8)):vP sep xs=Lib.join xs sep:=by cases xs with|nil=>rfl|cons x r=>rw[yE,Lib.join_cons]
theorem acE:IU Tryz.prog 144where Mk:=⟨_,_,Tryz.func144,rfl,by kernel_rfl⟩;BJ a c sep w:=Tryz.strings_Join_none a c sep w;abb bk o c xs sep w hcells hbk hN hcap hlen:=by rw[Uf]at hlen⊢;exact Tryz.strings_Join bk o c xs sep w hcells hbk hN hcap hlen
end Go.Proofs.YtabnemidjklolaaGreatDoor
