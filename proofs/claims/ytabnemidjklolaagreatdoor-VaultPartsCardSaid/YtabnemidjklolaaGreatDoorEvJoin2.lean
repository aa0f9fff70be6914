/- strings.Join,taken by its contract. -/
import Derived.Test.YtabnemidjklolaaGreatDoorEvD
import Derived.Test.YtabnemidjklolaaGreatDoorShelf
set_option linter.unusedVariables false
namespace Go.Proofs.YtabnemidjklolaaGreatDoor
open Go.RowKit Go.Ev
theorem xA(sep:List UInt8):∀(x:List UInt8)(r:List (List UInt8)),uv sep (x::r)=x++Lib.joinTail sep r|x,[]=>by simp[uv,Lib.joinTail]|x,y::r=>by have:=xA sep y r;show x++(sep++uv sep (y::r))=_;rw[this];simp[Lib.joinTail]
theorem St(sep:List UInt8)(xs:List (List UInt8)):uv sep xs=Lib.join xs sep:=by cases xs with|nil=>rfl|cons x r=>rw[xA,Lib.join_cons]
theorem aba:Hk Tryz.prog 144where Sq:=⟨_,_,Tryz.func144,rfl,by kernel_rfl⟩;Az a c sep w:=Tryz.strings_Join_none a c sep w;Zw bk o c xs sep w hcells hbk hN hcap hlen:=by rw[St]at hlen⊢;exact Tryz.strings_Join bk o c xs sep w hcells hbk hN hcap hlen
end Go.Proofs.YtabnemidjklolaaGreatDoor
