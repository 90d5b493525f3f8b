/-
  An append, told in full: in place, or into a new block while the old one stays as it was.
-/
import Derived.Test.YtkdhgablioljnaaA2
set_option linter.unusedSimpArgs false
set_option linter.unusedVariables false
set_option linter.unusedSectionVars false
namespace Go.AH
open Go

section
variable {P : Program} {w : World} {g h hf : AHeap} {t : AF} {ρ : Operand → Value} {o : Oper}

end
end Go.AH
