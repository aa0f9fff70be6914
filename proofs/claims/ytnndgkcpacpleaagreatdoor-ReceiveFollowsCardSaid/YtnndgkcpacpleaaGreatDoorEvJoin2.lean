/- strings.Join,taken by its contract. -/
import Derived.Test.YtnndgkcpacpleaaGreatDoorEvD
import Derived.Test.YtnndgkcpacpleaaGreatDoorShelf
set_option linter.unusedVariables false
namespace Go.Proofs.YtnndgkcpacpleaaGreatDoor
open Go.RowKit Go.Ev
theorem xS (sep:List UInt8):∀ (x:List UInt8) (r:List (List UInt8)),uG sep (x :: r)=x ++ Lib.joinTail sep r
 | x,[]=>by simp [uG,Lib.joinTail]
 | x,y :: r=>by
  have:=xS sep y r
  show x ++ (sep ++ uG sep (y :: r))=_
  rw [this]
  simp [Lib.joinTail]
theorem Sc (sep:List UInt8) (xs:List (List UInt8)):uG sep xs=Lib.join xs sep:=by
 cases xs with
 | nil=>rfl
 | cons x r=>rw [xS,Lib.join_cons]
theorem aaI:IS Tryz.prog 216 where
 RY:=⟨_,_,Tryz.func216,rfl,by kernel_rfl⟩
 Ay a c sep w:=Tryz.strings_Join_none a c sep w
 Y4 bk o c xs sep w hcells hbk hN hcap hlen:=by
  rw [Sc]at hlen ⊢
  exact Tryz.strings_Join bk o c xs sep w hcells hbk hN hcap hlen
end Go.Proofs.YtnndgkcpacpleaaGreatDoor
