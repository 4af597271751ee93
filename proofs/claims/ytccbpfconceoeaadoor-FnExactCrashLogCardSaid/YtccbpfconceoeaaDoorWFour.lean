-- Printed by the kit's printer; wip/trim.py of this session has left what the seat's texts name.
import Derived.Test.YtccbpfconceoeaaDoorWTab
/-! ### 56. Four, five, six operations that may come up next, in any order -/
namespace Go.Proofs.YtccbpfconceoeaaDoorW.PrintLast
section
variable {P : Program} {ops : Array Oper} {Q : Exit → Act → World → Prop} {md : Region.Mode} {S : World → Prop} {ds : List Nat} {T : Bool × List (List Nat × List Nat)}
end
end Go.Proofs.YtccbpfconceoeaaDoorW.PrintLast
