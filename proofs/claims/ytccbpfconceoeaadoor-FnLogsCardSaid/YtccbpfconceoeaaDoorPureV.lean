/- The laws' own comparison of lists of records. No conditions but those that each theorem names. -/
import Derived.Test.YtccbpfconceoeaaDoorPx0
import Derived.Test.YtccbpfconceoeaaDoorPx17
import Derived.Test.YtccbpfconceoeaaDoorPureA
namespace Go.Proofs.YtccbpfconceoeaaDoor.Pure
open Go.RowKit Go.Proofs.YtccbpfconceoeaaDoor.P Go.Proofs.YtccbpfconceoeaaDoorW.PrintWords Go.Proofs.YtccbpfconceoeaaDoorW.PrintLast Go.Proofs.YtccbpfconceoeaaDoorW.PrintMore
theorem vRec_loop : ∀ (l pre : List S27), (pre ++ l).length ≤ 100000 → Ev (fun q => laws_vRecords.l0 q (pre ++ l) (pre ++ l) (pre.length : Int)) true := by
  intro l
  induction l with
  | nil =>
    intro pre hz
    refine Ev.step (f := fun _ => some true) (fun q => ?_) (Ev.now _)
    simp only [laws_vRecords.l0]
    rw [if_neg (by simp)]
  | cons a l ih =>
    intro pre hz
    have hz' := hz
    simp only [List.length_append, List.length_cons] at hz'
    have h3 := ih (pre ++ [a]) (by simp; omega)
    rw [List.append_assoc] at h3
    refine Ev.step (f := fun q => laws_vRecords.l0 q (pre ++ a :: l) (pre ++ a :: l) ((pre.length + 1 : Nat) : Int)) (fun q => ?_) (Ev.congr (fun q => by simp) h3)
    simp only [laws_vRecords.l0]
    have h4 : (pre.length : Int) < ((pre ++ a :: l).length : Int) := by simp only [List.length_append, List.length_cons]; omega
    rw [if_pos h4, if_pos (by omega), if_pos h4, w64 (by omega), if_neg (by simp)]
    rfl
theorem vRec_ev (l : List S27) (h : l.length ≤ 1000) : Ev (fun q => laws_vRecords.f q l l) true := by
  refine Ev.congr (fun q => ?_) (vRec_loop l [] (by simp; omega))
  unfold laws_vRecords.f
  rw [if_pos rfl]
  rfl
end Go.Proofs.YtccbpfconceoeaaDoor.Pure
