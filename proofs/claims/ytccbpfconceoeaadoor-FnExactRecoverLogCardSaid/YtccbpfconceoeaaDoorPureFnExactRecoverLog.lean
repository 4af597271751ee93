/- The law FnExactRecoverLog over the printed functions: for every input it answers true. Conditions: the sizes that every row grants. -/
import Derived.Test.YtccbpfconceoeaaDoorPx0
import Derived.Test.YtccbpfconceoeaaDoorPx12
import Derived.Test.YtccbpfconceoeaaDoorPx14
import Derived.Test.YtccbpfconceoeaaDoorPx15
import Derived.Test.YtccbpfconceoeaaDoorPureA
import Derived.Test.YtccbpfconceoeaaDoorPureE
namespace Go.Proofs.YtccbpfconceoeaaDoor.Pure
open Go.RowKit Go.Proofs.YtccbpfconceoeaaDoor.P Go.Proofs.YtccbpfconceoeaaDoorW.PrintWords Go.Proofs.YtccbpfconceoeaaDoorW.PrintLast Go.Proofs.YtccbpfconceoeaaDoorW.PrintMore
theorem FnExactRecoverLog : laws_FnExactRecoverLog.Pure := by
  intro s hs
  refine Ev.rounds ?_
  unfold laws_FnExactRecoverLog.f
  by_cases h0 : (s.size : Int) > 1048576
  · simp only [if_pos h0]; exact Ev.now _
  · simp only [if_neg h0]
    obtain ⟨v, hv1, hv2⟩ : ∃ v : ByteArray × ByteArray × Int × Int × Bool, Ev (fun q => spec_RecoverLog.f q s) v ∧ Ev (fun q => impl_RecoverLog.f q s) v := by
      by_cases h1 : (s.size : Int) > 30000
      · exact ⟨((⟨#[]⟩ : ByteArray), (⟨#[]⟩ : ByteArray), 0, 0, false), Ev.congr (fun q => by unfold spec_RecoverLog.f; rw [if_pos h1]) (Ev.now _), Ev.congr (fun q => by unfold impl_RecoverLog.f; rw [if_pos h1]) (Ev.now _)⟩
      · have he := endOf_le s
        have hl := recs_len s
        have hi := intEnds_len s
        have hr := rd_last s
        refine ⟨(s.extract 0 (endOf s), (⟨#[]⟩ : ByteArray), ((recsOf s).length : Int), (endOf s : Int), true), ?_, ?_⟩
        · refine Ev.congr (fun q => by unfold spec_RecoverLog.f; rw [if_neg h1]) (Ev.bind (open_ev s (by omega)) (Ev.congr (fun q => ?_) (Ev.now _)))
          simp only
          rw [if_pos (by omega), if_pos (by omega), Int.toNat_natCast]
        · refine Ev.congr (fun q => by unfold impl_RecoverLog.f; rw [if_neg h1]) (Ev.bind (recs_ev s (by omega)) (Ev.congr (fun q => ?_) (Ev.now _)))
          simp only
          rw [hr, w64 (by omega), if_pos (by omega), if_pos (by omega), if_pos (by omega), if_pos (by omega), Int.toNat_natCast]
    refine Ev.bind hv1 (Ev.bind hv2 ?_)
    refine Ev.congr (fun q => ?_) (Ev.now _)
    rw [eqLog_same]
    simp
end Go.Proofs.YtccbpfconceoeaaDoor.Pure
