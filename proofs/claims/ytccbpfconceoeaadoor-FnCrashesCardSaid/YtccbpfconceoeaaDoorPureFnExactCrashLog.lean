/- The law FnExactCrashLog over the printed functions: for every input it answers true. Conditions: the sizes that every row grants. -/
import Derived.Test.YtccbpfconceoeaaDoorPx0
import Derived.Test.YtccbpfconceoeaaDoorPx12
import Derived.Test.YtccbpfconceoeaaDoorPx15
import Derived.Test.YtccbpfconceoeaaDoorPx16
import Derived.Test.YtccbpfconceoeaaDoorPx17
import Derived.Test.YtccbpfconceoeaaDoorPureA
import Derived.Test.YtccbpfconceoeaaDoorPureB
import Derived.Test.YtccbpfconceoeaaDoorPureE
namespace Go.Proofs.YtccbpfconceoeaaDoor.Pure
open Go.RowKit Go.Proofs.YtccbpfconceoeaaDoor.P Go.Proofs.YtccbpfconceoeaaDoorW.PrintWords Go.Proofs.YtccbpfconceoeaaDoorW.PrintLast Go.Proofs.YtccbpfconceoeaaDoorW.PrintMore
theorem strOfNums_app (a b : List Int) : strOfNums (a ++ b) = strOfNums a ++ strOfNums b := by
  refine bs_inj ?_
  rw [bs_append]
  simp [bs, strOfNums]
theorem bytesOf_app (a b : ByteArray) : bytesOf (a ++ b) = bytesOf a ++ bytesOf b := by
  unfold bytesOf
  rw [show (a ++ b).data.toList = a.data.toList ++ b.data.toList from bs_append a b, List.map_append]
theorem torn_app (d q : ByteArray) (torn : Bool) (keep : Int) (h : torn = true → 0 < keep → keep = q.size) :
    strOfNums (tornL torn keep ((d.size : Int) + keep - 1) (bytesOf (d ++ q))) = d ++ strOfNums (tornL torn keep (keep - 1) (bytesOf q)) := by
  have hl := bytesOf_length d
  have hd : strOfNums (bytesOf d) = d := strOfNums_bytesOf d
  unfold tornL
  rw [bytesOf_app]
  by_cases hq : torn = true ∧ 0 < keep
  · rw [if_pos hq, if_pos hq]
    obtain ⟨m, rfl⟩ := Int.eq_ofNat_of_zero_le (Int.le_of_lt hq.2)
    have hm : 0 < m := by omega
    have e1 : ((d.size : Int) + (m : Int) - 1).toNat = d.size + (m - 1) := by omega
    have e2 : ((m : Int) - 1).toNat = m - 1 := by omega
    have e3 : rd (bytesOf d ++ bytesOf q) ((d.size : Int) + (m : Int) - 1) = rd (bytesOf q) ((m : Int) - 1) := by
      unfold rd
      rw [e1, e2, List.getD_eq_getElem?_getD, List.getElem?_append_right (by omega), hl, Nat.add_sub_cancel_left, ← List.getD_eq_getElem?_getD]
    rw [e1, e2, e3, List.set_append_right _ _ (by omega), hl, Nat.add_sub_cancel_left, strOfNums_app, hd]
  · rw [if_neg hq, if_neg hq, strOfNums_app, hd]
/-- What CrashLog answers. -/
noncomputable def crashB (d p : ByteArray) (n keep : Int) (torn : Bool) : ByteArray × Bool := if validB d p n = true ∧ 0 ≤ keep ∧ keep ≤ p.size then (d ++ strOfNums (tornL torn keep (keep - 1) (bytesOf (p.extract 0 keep.toNat))), true) else (⟨#[]⟩, false)
theorem specCrash_ev (d p : ByteArray) (n keep : Int) (torn : Bool) (hd : d.size ≤ 140737488351232) (hp : p.size ≤ 140737488351232) : Ev (fun q => spec_CrashLog.f q d p n keep torn) (crashB d p n keep torn) := by
  unfold crashB
  refine Ev.bind (specValid_ev d p n hd hp) ?_
  by_cases h : validB d p n = true
  · have hz := validB_small h
    refine Ev.congr (f := fun _ => if 0 ≤ keep ∧ keep ≤ (p.size : Int) then some (d ++ strOfNums (tornL torn keep (keep - 1) (bytesOf (p.extract 0 keep.toNat))), true) else some (⟨#[]⟩, false)) (fun q => ?_) ?_
    · rw [if_pos h, in_some]
      simp only [Option.bind_some]
      by_cases h2 : 0 ≤ keep ∧ keep ≤ (p.size : Int)
      · rw [decide_eq_true h2.1, decide_eq_true h2.2, if_pos h2, Bool.and_self, if_pos rfl, if_pos ⟨h2.1, h2.2, by omega⟩]
      · rw [if_neg h2, if_neg (by rw [Bool.and_eq_true, decide_eq_true_eq, decide_eq_true_eq]; exact h2)]
    · by_cases h2 : 0 ≤ keep ∧ keep ≤ (p.size : Int)
      · simp only [if_pos h2]; rw [if_pos ⟨h, h2⟩]; exact Ev.now _
      · simp only [if_neg h2]; rw [if_neg (fun hh => h2 hh.2)]; exact Ev.now _
  · refine Ev.congr (f := fun _ => some ((⟨#[]⟩ : ByteArray), false)) (fun q => by rw [if_neg h]) ?_
    rw [if_neg (fun hh => h hh.1)]
    exact Ev.now _
theorem implCrash_ev (d p : ByteArray) (n keep : Int) (torn : Bool) (hd : d.size ≤ 140737488351232) (hp : p.size ≤ 140737488351232) : Ev (fun q => impl_CrashLog.f q d p n keep torn) (crashB d p n keep torn) := by
  unfold crashB
  refine Ev.bind (implValid_ev d p n hd hp) ?_
  by_cases h : validB d p n = true
  · have hz := validB_small h
    refine Ev.congr (f := fun _ => if 0 ≤ keep ∧ keep ≤ (p.size : Int) then some (d ++ strOfNums (tornL torn keep (keep - 1) (bytesOf (p.extract 0 keep.toNat))), true) else some (⟨#[]⟩, false)) (fun q => ?_) ?_
    · rw [if_pos h, in_some']
      simp only [Option.bind_some]
      by_cases h2 : 0 ≤ keep ∧ keep ≤ (p.size : Int)
      · rw [decide_eq_true h2.1, decide_eq_true h2.2, if_pos h2, Bool.and_self, if_pos rfl, if_pos ⟨h2.1, h2.2, by omega⟩]
        rw [torn_app d (p.extract 0 keep.toNat) torn keep (fun _ _ => by rw [ByteArray.size_extract]; omega)]
      · rw [if_neg h2, if_neg (by rw [Bool.and_eq_true, decide_eq_true_eq, decide_eq_true_eq]; exact h2)]
    · by_cases h2 : 0 ≤ keep ∧ keep ≤ (p.size : Int)
      · simp only [if_pos h2]; rw [if_pos ⟨h, h2⟩]; exact Ev.now _
      · simp only [if_neg h2]; rw [if_neg (fun hh => h2 hh.2)]; exact Ev.now _
  · refine Ev.congr (f := fun _ => some ((⟨#[]⟩ : ByteArray), false)) (fun q => by rw [if_neg h]) ?_
    rw [if_neg (fun hh => h hh.1)]
    exact Ev.now _
theorem FnExactCrashLog : laws_FnExactCrashLog.Pure := by
  intro d p n keep torn hd hp _ _
  refine Ev.rounds ?_
  unfold laws_FnExactCrashLog.f
  obtain ⟨z, hz⟩ := szLog_some d p n 1048576
  rw [hz]
  simp only [obs]
  by_cases hz : z < 0
  · simp only [if_pos hz]; exact Ev.now _
  · simp only [if_neg hz, laws_toLog.f, obs]
    refine Ev.bind (specCrash_ev d p n keep torn hd hp) (Ev.bind (implCrash_ev d p n keep torn hd hp) (Ev.congr (fun q => ?_) (Ev.now _)))
    rw [if_pos rfl]
    simp
end Go.Proofs.YtccbpfconceoeaaDoor.Pure
