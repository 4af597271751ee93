-- Printed by the kit's printer; wip/trim.py of this session has left what the seat's texts name.
-- PRINTED WORDS (module Derived/Print/Sized.lean): go-gate-2's, for the rows of laws over slices: an AI agent of Go's test side, Tue Nov 17 2026; no person has read it. Lean checks it.
import Derived.SizedLaws
import Derived.ChangeSlices
namespace Go.Proofs.YtccbpfconceoeaaDoorW.PrintWords
open Go.ChangeShapes Go.WideShapes
end Go.Proofs.YtccbpfconceoeaaDoorW.PrintWords
