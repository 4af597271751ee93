-- Printed by the kit's printer; wip/trim.py of this session has left what the seat's texts name.
import Derived.Test.YtccbpfconceoeaaDoorWInv
import Derived.Test.YtccbpfconceoeaaDoorWFootNe
namespace Go.Proofs.YtccbpfconceoeaaDoorW.PrintWords
open Go.RowKit
end Go.Proofs.YtccbpfconceoeaaDoorW.PrintWords
namespace Go.Proofs.YtccbpfconceoeaaDoorW.PrintLast
section
variable {ops : Array Oper} {a : Act} {o og : Oper} {g : Nat} {t : Tmp} {u : Bool}
end
end Go.Proofs.YtccbpfconceoeaaDoorW.PrintLast
