/- The law FnExactEncodeRecord over the printed functions: for every input it answers true. Conditions: the sizes that every row grants. -/
import Derived.Test.YtccbpfconceoeaaDoorPx0
import Derived.Test.YtccbpfconceoeaaDoorPx3
import Derived.Test.YtccbpfconceoeaaDoorPx9
import Derived.Test.YtccbpfconceoeaaDoorPureA
namespace Go.Proofs.YtccbpfconceoeaaDoor.Pure
open Go.RowKit Go.Proofs.YtccbpfconceoeaaDoor.P Go.Proofs.YtccbpfconceoeaaDoorW.PrintWords Go.Proofs.YtccbpfconceoeaaDoorW.PrintLast Go.Proofs.YtccbpfconceoeaaDoorW.PrintMore
theorem FnExactEncodeRecord : laws_FnExactEncodeRecord.Pure := by
  intro a0 c r _ hc hr
  refine Ev.rounds ?_
  unfold laws_FnExactEncodeRecord.f
  obtain ⟨z, hz⟩ := szRec_some c r 1048576
  rw [hz]
  simp only [Option.bind_some]
  by_cases hz : z < 0
  · simp only [if_pos hz]; exact Ev.now _
  · simp only [if_neg hz, laws_toLogRecord.f, Option.bind_some]
    refine Ev.bind (specEncode_ev a0 c r (by omega) (by omega)) ?_
    refine Ev.bind (implEncode_ev a0 c r (by omega) (by omega)) ?_
    rw [if_pos rfl, if_neg (by simp)]
    exact Ev.now _
end Go.Proofs.YtccbpfconceoeaaDoor.Pure
