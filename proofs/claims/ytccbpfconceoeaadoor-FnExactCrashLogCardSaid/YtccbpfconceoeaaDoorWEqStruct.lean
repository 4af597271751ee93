-- Printed by the kit's printer; wip/trim.py of this session has left what the seat's texts name.
import Derived.Test.YtccbpfconceoeaaDoorWWords
import Derived.Laws.StructEq
/-! ### 53. '==' of structs as_ one Bool -/
namespace Go.Proofs.YtccbpfconceoeaaDoorW.PrintWords
open Go.RowKit
section
variable {P : Program} {d : Nat} {xs ys : Array Value} {f : Field} {fs : List Field} {a b : Value} {r s : Bool} {w : World}
end
end Go.Proofs.YtccbpfconceoeaaDoorW.PrintWords
