/- The law FnExactIsValidLog over the printed functions: for every input it answers true. Conditions: the sizes that every row grants. -/
import Derived.Test.YtccbpfconceoeaaDoorPx0
import Derived.Test.YtccbpfconceoeaaDoorPx15
import Derived.Test.YtccbpfconceoeaaDoorPureE
namespace Go.Proofs.YtccbpfconceoeaaDoor.Pure
open Go.RowKit Go.Proofs.YtccbpfconceoeaaDoor.P Go.Proofs.YtccbpfconceoeaaDoorW.PrintWords Go.Proofs.YtccbpfconceoeaaDoorW.PrintLast Go.Proofs.YtccbpfconceoeaaDoorW.PrintMore
theorem FnExactIsValidLog : laws_FnExactIsValidLog.Pure := by
  intro d p n hd hp _
  refine Ev.rounds ?_
  unfold laws_FnExactIsValidLog.f
  obtain ⟨z, hz⟩ := szLog_some d p n 1048576
  rw [hz]
  simp only [obs]
  by_cases hz : z < 0
  · simp only [if_pos hz]; exact Ev.now _
  · simp only [if_neg hz, laws_toLog.f, obs]
    refine Ev.bind (Ev.bind (specValid_ev d p n hd hp) (Ev.now _)) ?_
    refine Ev.bind (implValid_ev d p n hd hp) ?_
    refine Ev.congr (fun q => ?_) (Ev.now _)
    simp
end Go.Proofs.YtccbpfconceoeaaDoor.Pure
