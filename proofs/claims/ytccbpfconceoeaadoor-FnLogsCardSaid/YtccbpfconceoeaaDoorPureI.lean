/- What AppendRecord of the program and of the reference answer behind their tests. No conditions but those that each theorem names. -/
import Derived.Test.YtccbpfconceoeaaDoorPx0
import Derived.Test.YtccbpfconceoeaaDoorPx5
import Derived.Test.YtccbpfconceoeaaDoorPx10
import Derived.Test.YtccbpfconceoeaaDoorPx15
import Derived.Test.YtccbpfconceoeaaDoorPureA
namespace Go.Proofs.YtccbpfconceoeaaDoor.Pure
open Go.RowKit Go.Proofs.YtccbpfconceoeaaDoor.P Go.Proofs.YtccbpfconceoeaaDoorW.PrintWords Go.Proofs.YtccbpfconceoeaaDoorW.PrintLast Go.Proofs.YtccbpfconceoeaaDoorW.PrintMore
theorem appendSpec_ev (d p : ByteArray) (n : Int) (c r : ByteArray) (b : Bool) (hp : p.size ≤ 140737488351232) (hb : b = true → (0 ≤ n ∧ n ≤ 60) ∧ recB c r = true) :
    Ev (fun q => spec_AppendRecord.j0 q (!b) d p n c r) (if b = true then (if n = 60 then (d, p, n, 2) else (d, p ++ lineB n c r, n + 1, 0)) else (d, p, n, 1)) := by
  cases b with
  | false => exact Ev.step (f := fun _ => some (d, p, n, 1)) (fun q => by simp [spec_AppendRecord.j0]) (Ev.now _)
  | true =>
    obtain ⟨hn, hv⟩ := hb rfl
    have hz := recB_size hv
    rw [if_pos rfl]
    by_cases h : n = 60
    · rw [if_pos h]
      exact Ev.step (f := fun _ => some (d, p, n, 2)) (fun q => by simp [spec_AppendRecord.j0, h]) (Ev.now _)
    · rw [if_neg h]
      have hl := l12Line_ev n c r (by omega) (by omega) (by omega) (by omega)
      have hs : (lineB n c r).size ≤ 1000 := by
        have h1 := sealB_size (headB n c r)
        have h2 := headB_size n c r
        have h3 := num_size n (by omega) (by omega)
        have h4 : (lineB n c r).size = (sealB (headB n c r)).size + 1 := by unfold lineB; rw [ByteArray.size_append]; rfl
        omega
      refine Ev.step (f := fun q => (spec_l12Line.f q n c r).bind fun t309 => (if p.size + t309.size ≤ 9223372036854775807 then (some (d, p ++ t309, wrap64 (n + 1), 0)) else (none))) (fun q => ?_) (Ev.bind hl (Ev.congr (fun q => ?_) (Ev.now _)))
      · simp only [spec_AppendRecord.j0]
        rw [if_neg (by simp), if_neg h]
      · rw [if_pos (by omega), w64 (by omega)]
theorem appendImpl_ev (d p : ByteArray) (n : Int) (c r : ByteArray) (b : Bool) (hp : p.size ≤ 140737488351232) (hb : b = true → (0 ≤ n ∧ n ≤ 60) ∧ recB c r = true) :
    Ev (fun q => impl_AppendRecord.j0 q (!b) d p n c r) (if b = true then (if n = 60 then (d, p, n, 2) else (d, p ++ lineB n c r, n + 1, 0)) else (d, p, n, 1)) := by
  cases b with
  | false => exact Ev.step (f := fun _ => some (d, p, n, 1)) (fun q => by simp [impl_AppendRecord.j0]) (Ev.now _)
  | true =>
    obtain ⟨hn, hv⟩ := hb rfl
    have hz := recB_size hv
    have he := implEncode_ev n c r (by omega) (by omega)
    unfold encB at he
    rw [hv, Bool.and_true] at he
    rw [if_pos rfl]
    refine Ev.step (f := fun q => (impl_EncodeRecord.f q n c r).bind fun bt315 => (if bt315.2 = true then (if p.size + bt315.1.size ≤ 9223372036854775807 then (some (d, p ++ bt315.1, wrap64 (n + 1), 0)) else (none)) else (some (d, p, n, 2)))) (fun q => ?_) (Ev.bind he ?_)
    · simp only [impl_AppendRecord.j0]
      rw [if_neg (by simp)]
    · by_cases h : n = 60
      · rw [if_pos h, decide_eq_false (by omega), if_neg (by simp)]
        exact Ev.now _
      · rw [if_neg h, decide_eq_true (by omega), if_pos rfl]
        have hs : (lineB n c r).size ≤ 1000 := by
          have h1 := sealB_size (headB n c r)
          have h2 := headB_size n c r
          have h3 := num_size n (by omega) (by omega)
          have h4 : (lineB n c r).size = (sealB (headB n c r)).size + 1 := by unfold lineB; rw [ByteArray.size_append]; rfl
          omega
        refine Ev.congr (fun q => ?_) (Ev.now _)
        simp only [if_true]
        rw [if_pos (by omega), w64 (by omega)]
end Go.Proofs.YtccbpfconceoeaaDoor.Pure
