/- strings.Join,taken by its contract. -/
import Derived.Test.YtalmhjlkdhlbiaaGreatDoorEvD
import Derived.Test.YtalmhjlkdhlbiaaGreatDoorShelf
set_option linter.unusedVariables false
set_option linter.unusedSimpArgs false
set_option linter.unusedSectionVars false
namespace Go.Proofs.YtalmhjlkdhlbiaaGreatDoor
open Go.RowKit Go.Ev
theorem wM (sep:List UInt8):∀ (x:List UInt8) (r:List (List UInt8)),ug sep (x :: r)=x ++ Lib.joinTail sep r
 | x,[]=>by simp [ug,Lib.joinTail]
 | x,y :: r=>by
  have:=wM sep y r
  show x ++ (sep ++ ug sep (y :: r))=_
  rw [this]
  simp [Lib.joinTail]
theorem Oh (sep:List UInt8) (xs:List (List UInt8)):ug sep xs=Lib.join xs sep:=by
 cases xs with
 | nil=>rfl
 | cons x r=>rw [wM,Lib.join_cons]
theorem Xy:Fc Tryz.prog 155 where
 IY:=⟨_,_,Tryz.func155,rfl,by kernel_rfl⟩
 UZ a c sep w:=Tryz.strings_Join_none a c sep w
 UY bk o c xs sep w hcells hbk hN hcap hlen:=by
  rw [Oh]at hlen ⊢
  exact Tryz.strings_Join bk o c xs sep w hcells hbk hN hcap hlen
end Go.Proofs.YtalmhjlkdhlbiaaGreatDoor
