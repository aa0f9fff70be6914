/- COMPILED FUNCTIONS. -/
import Derived.Test.YtaodjhgfhdncgaaGreatDoorEv3
set_option linter.unusedVariables false
set_option linter.unusedSimpArgs false
set_option linter.unusedSectionVars false
namespace Go.Ev
section
variable (P : Program)
def compFn (fid : Nat) (fn : Func) : Option FnE := match fn.body with
  | some c => if fn.ntmps ≤ 512 && fn.params.size + fn.nfree ≤ fn.ntmps then
      match compRes P fn.ntmps fn.results.toList with
      | some r => some (.code ((List.range (fn.params.size + fn.nfree)).map slotOf) r (compC P fn.ntmps fid false c))
      | none => none
    else none
  | none => none
end
end Go.Ev
