/-
  The barriers are raised: from here on simp leaves alone what follows a step that is not yet taken.
-/
import Derived.Test.YtobhipohnjmnhaaAhBase
set_option linter.unusedSimpArgs false
set_option linter.unusedVariables false
set_option linter.unusedSectionVars false
namespace Go.AH
attribute [congr] onSome_congr newA_congr awp_congr awpOps_congr opStep_congr AWP_congr awpLoop_congr ACalls_congr AYield_congr ACallV_congr finA_congr turnA_congr condA_congr guardA_congr storeA_congr makeA_congr appendA_congr copyA_congr stepW_bar stepG_bar awpOpsG_bar
end Go.AH
