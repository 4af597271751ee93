/- The law FnExactLogRecords over the printed functions: for every input it answers true. Conditions: the sizes that every row grants. -/
import Derived.Test.YtccbpfconceoeaaDoorPx0
import Derived.Test.YtccbpfconceoeaaDoorPx15
import Derived.Test.YtccbpfconceoeaaDoorPx19
import Derived.Test.YtccbpfconceoeaaDoorPx20
import Derived.Test.YtccbpfconceoeaaDoorPx21
import Derived.Test.YtccbpfconceoeaaDoorPx22
import Derived.Test.YtccbpfconceoeaaDoorPureE
import Derived.Test.YtccbpfconceoeaaDoorPureF
namespace Go.Proofs.YtccbpfconceoeaaDoor.Pure
open Go.RowKit Go.Proofs.YtccbpfconceoeaaDoor.P Go.Proofs.YtccbpfconceoeaaDoorW.PrintWords Go.Proofs.YtccbpfconceoeaaDoorW.PrintLast Go.Proofs.YtccbpfconceoeaaDoorW.PrintMore
open Classical
theorem FnExactLogRecords : laws_FnExactLogRecords.Pure := by
  intro d p n hd hp _
  refine Ev.rounds ?_
  unfold laws_FnExactLogRecords.f
  obtain ⟨z, hz⟩ := szLog_some d p n 1048576
  rw [hz]
  simp only [obs]
  by_cases hz : z < 0
  · simp only [if_pos hz]; exact Ev.now _
  · simp only [if_neg hz, laws_toLog.f, obs]
    obtain ⟨L, hL⟩ : ∃ L : List S27, L = if validB d p n = true then recsOf (d ++ p) else [] := ⟨_, rfl⟩
    have hlen : L.length ≤ 1000 := by
      rw [hL]
      have := (recs_len (d ++ p)).1
      split
      · omega
      · simp
    obtain ⟨b, hb⟩ : ∃ b, b = validB d p n := ⟨_, rfl⟩
    have e1 : Ev (fun q => spec_LogRecords.f q d p n) (L, b) := by
      refine Ev.bind (specValid_ev d p n hd hp) ?_
      by_cases h : validB d p n = true
      · have hs := validB_small h
        refine Ev.congr (fun q => by rw [if_pos h, if_pos (by omega)]) (Ev.bind (open_ev (d ++ p) (by rw [app_size]; omega)) ?_)
        rw [hL, hb, if_pos h, h]
        exact Ev.now _
      · refine Ev.congr (fun q => by rw [if_neg h]) ?_
        rw [hL, hb, if_neg h, Bool.eq_false_iff.mpr h]
        exact Ev.now _
    have e2 : Ev (fun q => impl_LogRecords.f q d p n) (L, b) := by
      refine Ev.bind (read_ev d p n hd hp) ?_
      by_cases h : validB d p n = true
      · have hs := validB_small h
        refine Ev.congr (fun q => by rw [if_pos h]) ?_
        rw [hL, hb, if_pos h, h]
        unfold readB
        rw [if_pos hs]
        exact Ev.now _
      · refine Ev.congr (fun q => by rw [if_neg h]) ?_
        rw [hL, hb, if_neg h, Bool.eq_false_iff.mpr h]
        exact Ev.now _
    have hh : ∀ x63, x63 = false → Ev (fun q => laws_FnExactLogRecords.j1 q (mkR 1 L) (1 + 2 * (L.length : Int)) x63) true := by
      rintro x63 rfl
      refine Ev.step (f := fun q => (laws_heldLogRecordS.f q (mkR 1 L) 1).bind fun t400 => (if t400 < 0 then (some false) else (if t400 = (1 + 2 * (L.length : Int)) then (some true) else (some false)))) (fun q => ?_) (Ev.bind (heldR_ev L hlen) (Ev.congr (fun q => ?_) (Ev.now _)))
      · simp only [laws_FnExactLogRecords.j1]
        rw [if_neg (by simp)]
      · rw [if_neg (by omega), if_pos rfl]
    have hj : ∀ x37, x37 = false → Ev (fun q => laws_FnExactLogRecords.j0 q L b L x37 d p n) true := by
      rintro x37 rfl
      refine Ev.step (f := fun q => (laws_markLogRecordS.f q L 1).bind fun bt389 => ((laws_heldLogRecordS.f q bt389.2 1).bind fun t391 => (if t391 < 0 then (some false) else (if t391 = bt389.1 then ((impl_LogRecords.f q d p n).bind fun bt395 => ((laws_eqLogRecordS.f q bt395.1 L).bind fun t399 => (if t399 = true then (laws_FnExactLogRecords.j1 q bt389.2 bt389.1 (bt395.2 != b)) else (laws_FnExactLogRecords.j1 q bt389.2 bt389.1 true)))) else (some false))))) (fun q => ?_) (Ev.bind (markR_ev L hlen) (Ev.bind (heldR_ev L hlen) ?_))
      · simp only [laws_FnExactLogRecords.j0, laws_toLog.f, obs]
        rw [if_neg (by simp)]
      · refine Ev.congr (f := fun q => (impl_LogRecords.f q d p n).bind fun bt395 => ((laws_eqLogRecordS.f q bt395.1 L).bind fun t399 => (if t399 = true then (laws_FnExactLogRecords.j1 q (mkR 1 L) (1 + 2 * (L.length : Int)) (bt395.2 != b)) else (laws_FnExactLogRecords.j1 q (mkR 1 L) (1 + 2 * (L.length : Int)) true)))) (fun q => by rw [if_neg (by omega), if_pos rfl]) ?_
        refine Ev.bind e2 (Ev.bind (eqR_ev L hlen) ?_)
        refine Ev.congr (fun q => ?_) (hh (b != b) (by simp))
        rw [if_pos rfl]
    refine Ev.bind e1 (Ev.bind e2 (Ev.bind (eqR_ev L hlen) ?_))
    refine Ev.congr (fun q => ?_) (hj (b != b) (by simp))
    rw [if_pos rfl]
end Go.Proofs.YtccbpfconceoeaaDoor.Pure
