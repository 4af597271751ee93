/- The law FnExactSyncLog over the printed functions: for every input it answers true. Conditions: the sizes that every row grants. -/
import Derived.Test.YtccbpfconceoeaaDoorPx0
import Derived.Test.YtccbpfconceoeaaDoorPx15
import Derived.Test.YtccbpfconceoeaaDoorPx16
import Derived.Test.YtccbpfconceoeaaDoorPureE
namespace Go.Proofs.YtccbpfconceoeaaDoor.Pure
open Go.RowKit Go.Proofs.YtccbpfconceoeaaDoor.P Go.Proofs.YtccbpfconceoeaaDoorW.PrintWords Go.Proofs.YtccbpfconceoeaaDoorW.PrintLast Go.Proofs.YtccbpfconceoeaaDoorW.PrintMore
theorem FnExactSyncLog : laws_FnExactSyncLog.Pure := by
  intro d p n hd hp _
  refine Ev.rounds ?_
  unfold laws_FnExactSyncLog.f
  obtain ⟨z, hz⟩ := szLog_some d p n 1048576
  rw [hz]
  simp only [obs]
  by_cases hz : z < 0
  · simp only [if_pos hz]; exact Ev.now _
  · simp only [if_neg hz, laws_toLog.f, obs]
    obtain ⟨v, hv⟩ : ∃ v : ByteArray × ByteArray × Int × Bool, v = if validB d p n = true then (d ++ p, (⟨#[]⟩ : ByteArray), n, true) else ((⟨#[]⟩ : ByteArray), (⟨#[]⟩ : ByteArray), 0, false) := ⟨_, rfl⟩
    have e1 : Ev (fun q => spec_SyncLog.f q d p n) v := by
      refine Ev.bind (specValid_ev d p n hd hp) (Ev.congr (fun q => ?_) (Ev.now _))
      rw [hv]
      by_cases h : validB d p n = true
      · rw [if_pos h, if_pos h, if_pos (by omega)]
      · rw [if_neg h, if_neg h]
    have e2 : Ev (fun q => impl_SyncLog.f q d p n) v := by
      refine Ev.bind (implValid_ev d p n hd hp) (Ev.congr (fun q => ?_) (Ev.now _))
      rw [hv]
      by_cases h : validB d p n = true
      · rw [if_pos h, if_pos h, if_pos (by omega)]
      · rw [if_neg h, if_neg h]
    refine Ev.bind e1 (Ev.bind e2 (Ev.congr (fun q => ?_) (Ev.now _)))
    rw [eqLog_same]
    simp
end Go.Proofs.YtccbpfconceoeaaDoor.Pure
