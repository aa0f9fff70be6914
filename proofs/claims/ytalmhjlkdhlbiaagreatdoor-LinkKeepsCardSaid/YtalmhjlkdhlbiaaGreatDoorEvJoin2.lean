/- strings.Join,taken by its contract. -/
import Derived.Test.YtalmhjlkdhlbiaaGreatDoorEvD
import Derived.Test.YtalmhjlkdhlbiaaGreatDoorShelf
set_option linter.unusedVariables false
namespace Go.Proofs.YtalmhjlkdhlbiaaGreatDoor
open Go.RowKit Go.Ev
theorem wM (sep:List UInt8):∀ (x:List UInt8) (r:List (List UInt8)),ue sep (x :: r)=x ++ Lib.joinTail sep r
 | x,[]=>by simp [ue,Lib.joinTail]
 | x,y :: r=>by
  have:=wM sep y r
  show x ++ (sep ++ ue sep (y :: r))=_
  rw [this]
  simp [Lib.joinTail]
theorem N0 (sep:List UInt8) (xs:List (List UInt8)):ue sep xs=Lib.join xs sep:=by
 cases xs with
 | nil=>rfl
 | cons x r=>rw [wM,Lib.join_cons]
theorem XK:Fw Tryz.prog 155 where
 Jl:=⟨_,_,Tryz.func155,rfl,by kernel_rfl⟩
 Vh a c sep w:=Tryz.strings_Join_none a c sep w
 Vg bk o c xs sep w hcells hbk hN hcap hlen:=by
  rw [N0]at hlen ⊢
  exact Tryz.strings_Join bk o c xs sep w hcells hbk hN hcap hlen
end Go.Proofs.YtalmhjlkdhlbiaaGreatDoor
