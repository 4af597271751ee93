/- The law FnExactAppendRecord over the printed functions: for every input it answers true. Conditions: the sizes that every row grants. -/
import Derived.Test.YtccbpfconceoeaaDoorPx0
import Derived.Test.YtccbpfconceoeaaDoorPx5
import Derived.Test.YtccbpfconceoeaaDoorPx10
import Derived.Test.YtccbpfconceoeaaDoorPx12
import Derived.Test.YtccbpfconceoeaaDoorPx13
import Derived.Test.YtccbpfconceoeaaDoorPureA
import Derived.Test.YtccbpfconceoeaaDoorPureE
namespace Go.Proofs.YtccbpfconceoeaaDoor.Pure
open Go.RowKit Go.Proofs.YtccbpfconceoeaaDoor.P Go.Proofs.YtccbpfconceoeaaDoorW.PrintWords Go.Proofs.YtccbpfconceoeaaDoorW.PrintLast Go.Proofs.YtccbpfconceoeaaDoorW.PrintMore
theorem appendSpec_ev (d p : ByteArray) (n : Int) (c r : ByteArray) (b : Bool) (hp : p.size ≤ 140737488351232) (hb : b = true → (0 ≤ n ∧ n ≤ 60) ∧ recB c r = true) :
    Ev (fun q => spec_AppendRecord.j0 q (!b) d p n c r) (if b = true then (if n = 60 then (d, p, n, 2) else (d, p ++ lineB n c r, n + 1, 0)) else (d, p, n, 1)) := by
  cases b with
  | false => exact Ev.step (f := fun _ => some (d, p, n, 1)) (fun q => by simp [spec_AppendRecord.j0]) (Ev.now _)
  | true =>
    obtain ⟨hn, hv⟩ := hb rfl
    have hz := recB_size hv
    rw [if_pos rfl]
    by_cases h : n = 60
    · rw [if_pos h]
      exact Ev.step (f := fun _ => some (d, p, n, 2)) (fun q => by simp [spec_AppendRecord.j0, h]) (Ev.now _)
    · rw [if_neg h]
      have hl := l12Line_ev n c r (by omega) (by omega) (by omega) (by omega)
      have hs : (lineB n c r).size ≤ 1000 := by
        have h1 := sealB_size (headB n c r)
        have h2 := headB_size n c r
        have h3 := num_size n (by omega) (by omega)
        have h4 : (lineB n c r).size = (sealB (headB n c r)).size + 1 := by unfold lineB; rw [ByteArray.size_append]; rfl
        omega
      refine Ev.step (f := fun q => (spec_l12Line.f q n c r).bind fun t309 => (if p.size + t309.size ≤ 9223372036854775807 then (some (d, p ++ t309, wrap64 (n + 1), 0)) else (none))) (fun q => ?_) (Ev.bind hl (Ev.congr (fun q => ?_) (Ev.now _)))
      · simp only [spec_AppendRecord.j0]
        rw [if_neg (by simp), if_neg h]
      · rw [if_pos (by omega), w64 (by omega)]
theorem appendImpl_ev (d p : ByteArray) (n : Int) (c r : ByteArray) (b : Bool) (hp : p.size ≤ 140737488351232) (hb : b = true → (0 ≤ n ∧ n ≤ 60) ∧ recB c r = true) :
    Ev (fun q => impl_AppendRecord.j0 q (!b) d p n c r) (if b = true then (if n = 60 then (d, p, n, 2) else (d, p ++ lineB n c r, n + 1, 0)) else (d, p, n, 1)) := by
  cases b with
  | false => exact Ev.step (f := fun _ => some (d, p, n, 1)) (fun q => by simp [impl_AppendRecord.j0]) (Ev.now _)
  | true =>
    obtain ⟨hn, hv⟩ := hb rfl
    have hz := recB_size hv
    have he := implEncode_ev n c r (by omega) (by omega)
    unfold encB at he
    rw [hv, Bool.and_true] at he
    rw [if_pos rfl]
    refine Ev.step (f := fun q => (impl_EncodeRecord.f q n c r).bind fun bt315 => (if bt315.2 = true then (if p.size + bt315.1.size ≤ 9223372036854775807 then (some (d, p ++ bt315.1, wrap64 (n + 1), 0)) else (none)) else (some (d, p, n, 2)))) (fun q => ?_) (Ev.bind he ?_)
    · simp only [impl_AppendRecord.j0]
      rw [if_neg (by simp)]
    · by_cases h : n = 60
      · rw [if_pos h, decide_eq_false (by omega), if_neg (by simp)]
        exact Ev.now _
      · rw [if_neg h, decide_eq_true (by omega), if_pos rfl]
        have hs : (lineB n c r).size ≤ 1000 := by
          have h1 := sealB_size (headB n c r)
          have h2 := headB_size n c r
          have h3 := num_size n (by omega) (by omega)
          have h4 : (lineB n c r).size = (sealB (headB n c r)).size + 1 := by unfold lineB; rw [ByteArray.size_append]; rfl
          omega
        refine Ev.congr (fun q => ?_) (Ev.now _)
        simp only [if_true]
        rw [if_pos (by omega), w64 (by omega)]
theorem FnExactAppendRecord : laws_FnExactAppendRecord.Pure := by
  intro d p n c r hd hp _ hc hr
  refine Ev.rounds ?_
  unfold laws_FnExactAppendRecord.f
  obtain ⟨z, hz⟩ := szLog_some d p n 1048576
  rw [hz]
  simp only [obs]
  by_cases hz : z < 0
  · simp only [if_pos hz]; exact Ev.now _
  · simp only [if_neg hz]
    obtain ⟨y, hy⟩ := szRec_some c r z
    rw [hy]
    simp only [obs]
    by_cases hy : y < 0
    · simp only [if_pos hy]; exact Ev.now _
    · simp only [if_neg hy, laws_toLog.f, laws_toLogRecord.f, obs]
      obtain ⟨b, hb⟩ : ∃ b, b = (validB d p n && recB c r) := ⟨_, rfl⟩
      have hb2 : b = true → (0 ≤ n ∧ n ≤ 60) ∧ recB c r = true := by
        intro h
        rw [hb, Bool.and_eq_true] at h
        have := validB_len h.1
        have := (recs_len (d ++ p)).1
        exact ⟨by omega, h.2⟩
      obtain ⟨v, hv⟩ : ∃ v : ByteArray × ByteArray × Int × Int, v = (if b = true then (if n = 60 then (d, p, n, 2) else (d, p ++ lineB n c r, n + 1, 0)) else (d, p, n, 1)) := ⟨_, rfl⟩
      have j1 := appendSpec_ev d p n c r b hp hb2
      have j2 := appendImpl_ev d p n c r b hp hb2
      rw [← hv] at j1 j2
      have e1 : Ev (fun q => spec_AppendRecord.f q d p n c r) v := by
        refine Ev.bind (specValid_ev d p n hd hp) ?_
        by_cases h : validB d p n = true
        · refine Ev.congr (fun q => by rw [if_pos h]) (Ev.bind (l12Record_ev c r (by omega) (by omega)) ?_)
          rw [h, Bool.true_and] at hb
          rw [hb] at j1; exact j1
        · refine Ev.congr (fun q => by rw [if_neg h]) ?_
          rw [Bool.eq_false_iff.mpr h, Bool.false_and] at hb
          rw [hb] at j1; exact j1
      have e2 : Ev (fun q => impl_AppendRecord.f q d p n c r) v := by
        refine Ev.bind (implValid_ev d p n hd hp) ?_
        by_cases h : validB d p n = true
        · refine Ev.congr (fun q => by rw [if_pos h]) (Ev.bind (IsValidRecord_ev c r (by omega) (by omega)) ?_)
          rw [h, Bool.true_and] at hb
          rw [hb] at j2; exact j2
        · refine Ev.congr (fun q => by rw [if_neg h]) ?_
          rw [Bool.eq_false_iff.mpr h, Bool.false_and] at hb
          rw [hb] at j2; exact j2
      refine Ev.bind e1 (Ev.bind e2 (Ev.congr (fun q => ?_) (Ev.now _)))
      rw [eqLog_same]
      simp
end Go.Proofs.YtccbpfconceoeaaDoor.Pure
