-- Written by wip/mp.py of this session over the kit's printer; Lean checks it.
import Derived.Test.YtccbpfconceoeaaDoorPx0
import Derived.Test.YtccbpfconceoeaaDoorPx5
import Derived.Test.YtccbpfconceoeaaDoorPx12
namespace Go.Proofs.YtccbpfconceoeaaDoor.P
open Go.RowKit Go.Proofs.YtccbpfconceoeaaDoorW.PrintWords Go.Proofs.YtccbpfconceoeaaDoorW.PrintLast Go.Proofs.YtccbpfconceoeaaDoorW.PrintMore
attribute [local go_sem] max2_int min2_int max_two min_two max_three min_three max_four min_four   -- for this text's walks alone
set_option linter.unusedVariables false
set_option linter.unusedSimpArgs false

/-! ### impl_CrashLog: function 24 -/
-- by hand
end Go.Proofs.YtccbpfconceoeaaDoor.P
