/- strings.Join, taken by its contract. -/
import Derived.Test.YtjjidjlaijpnoaaGreatDoorEvD
import Derived.Test.YtjjidjlaijpnoaaGreatDoorShelf
set_option linter.unusedVariables false
namespace Go.Proofs.YtjjidjlaijpnoaaGreatDoor
open Go.RowKit Go.Ev

theorem joinB_tail (sep : List UInt8) : ∀ (x : List UInt8) (r : List (List UInt8)), joinB sep (x :: r) = x ++ Lib.joinTail sep r
  | x, [] => by simp [joinB, Lib.joinTail]
  | x, y :: r => by
    have := joinB_tail sep y r
    show x ++ (sep ++ joinB sep (y :: r)) = _
    rw [this]
    simp [Lib.joinTail]
theorem joinB_eq (sep : List UInt8) (xs : List (List UInt8)) : joinB sep xs = Lib.join xs sep := by
  cases xs with
  | nil => rfl
  | cons x r => rw [joinB_tail, Lib.join_cons]

theorem joinOK : JoinOK Tryz.prog 77 where
  hfn := ⟨_, _, Tryz.func77, rfl, by kernel_rfl⟩
  hnone a c sep w := Tryz.strings_Join_none a c sep w
  hmany bk o c xs sep w hcells hbk hN hcap hlen := by
    rw [joinB_eq] at hlen ⊢
    exact Tryz.strings_Join bk o c xs sep w hcells hbk hN hcap hlen
end Go.Proofs.YtjjidjlaijpnoaaGreatDoor
