/- Marks: what the laws write over a list that they were handed, and read again. No conditions but those that each theorem names. -/
import Derived.Test.YtccbpfconceoeaaDoorPx0
import Derived.Test.YtccbpfconceoeaaDoorPx19
import Derived.Test.YtccbpfconceoeaaDoorPx20
import Derived.Test.YtccbpfconceoeaaDoorPx21
import Derived.Test.YtccbpfconceoeaaDoorPureA
import Derived.Test.YtccbpfconceoeaaDoorPureB
namespace Go.Proofs.YtccbpfconceoeaaDoor.Pure
open Go.RowKit Go.Proofs.YtccbpfconceoeaaDoor.P Go.Proofs.YtccbpfconceoeaaDoorW.PrintWords Go.Proofs.YtccbpfconceoeaaDoorW.PrintLast Go.Proofs.YtccbpfconceoeaaDoorW.PrintMore
theorem markText_loop : ∀ (m : Nat) (n : Int) (x : ByteArray), 0 ≤ n → n ≤ m → x.size + m ≤ 1000000 → ∃ t, Ev (fun q => laws_markText.l0 q n x) t := by
  intro m
  induction m with
  | zero =>
    intro n x h0 h1 hx
    refine ⟨(⟨#[109]⟩ : ByteArray) ++ x, Ev.step (fun q => ?_) (Ev.now _)⟩
    simp only [laws_markText.l0]
    rw [if_neg (by omega), if_pos (by omega)]
  | succ m ih =>
    intro n x h0 h1 hx
    by_cases h : n > 0
    · have e : Int.tdiv n 10 = n / 10 := Int.tdiv_eq_ediv_of_nonneg (by omega)
      have hz : (strOfNums [(wrap64 (48 + (Int.tmod n 10))) % 256]).size = 1 := rfl
      obtain ⟨t, ht⟩ := ih (n / 10) (strOfNums [(wrap64 (48 + (Int.tmod n 10))) % 256] ++ x) (by omega) (by omega) (by rw [ByteArray.size_append, hz]; omega)
      refine ⟨t, Ev.step (fun q => ?_) ht⟩
      simp only [laws_markText.l0]
      rw [if_pos h]
      simp only [Option.bind_some]
      rw [hz, if_pos (by omega), e, w64 (z := n / 10) (by omega)]
    · refine ⟨(⟨#[109]⟩ : ByteArray) ++ x, Ev.step (fun q => ?_) (Ev.now _)⟩
      simp only [laws_markText.l0]
      rw [if_neg h, if_pos (by omega)]
theorem markText_some (n : Int) (h0 : 0 ≤ n) (h1 : n ≤ 100000) : ∃ t, Ev (fun q => laws_markText.f q n) t := by
  by_cases h : n ≤ 0
  · exact ⟨_, Ev.congr (fun q => by unfold laws_markText.f; rw [if_pos h]) (Ev.now _)⟩
  · obtain ⟨t, ht⟩ := markText_loop 100000 n ⟨#[]⟩ h0 (by omega) (by decide)
    exact ⟨t, Ev.congr (fun q => by unfold laws_markText.f; rw [if_neg h]) ht⟩
open Classical in
/-- The mark of a number. -/
noncomputable def mk (n : Int) : ByteArray := if h : 0 ≤ n ∧ n ≤ 100000 then Classical.choose (markText_some n h.1 h.2) else ⟨#[]⟩
theorem mk_ev (n : Int) (h0 : 0 ≤ n) (h1 : n ≤ 100000) : Ev (fun q => laws_markText.f q n) (mk n) := by
  unfold mk
  rw [dif_pos ⟨h0, h1⟩]
  exact Classical.choose_spec (markText_some n h0 h1)
theorem getD_at {α : Type} (pre l : List α) (a z : α) : (pre ++ a :: l).getD pre.length z = a := by
  rw [List.getD_eq_getElem?_getD, List.getElem?_append_right (Nat.le_refl _), Nat.sub_self]; rfl
theorem set_at {α : Type} (pre l : List α) (a b : α) : (pre ++ a :: l).set pre.length b = pre ++ b :: l := by
  rw [List.set_append_right _ _ (Nat.le_refl _), Nat.sub_self]; rfl
theorem toList_inj {a b : ByteArray} (h : a.toList = b.toList) : a = b := bs_inj (by rw [← toList_bs, ← toList_bs, h])
/-! ### Records -/
noncomputable def mkR (v : Int) : List S27 → List S27
  | [] => []
  | _ :: l => ⟨mk v, mk (v + 1)⟩ :: mkR (v + 2) l
theorem mkR_len : ∀ (l : List S27) (v : Int), (mkR v l).length = l.length
  | [], _ => rfl
  | _ :: l, v => by unfold mkR; rw [List.length_cons, List.length_cons, mkR_len l]
theorem rd27 (pre l : List S27) (a : S27) : rd_T27 (pre ++ a :: l) (pre.length : Int) = a := by unfold rd_T27; rw [Int.toNat_natCast]; exact getD_at _ _ _ _
theorem markR_loop : ∀ (l pre : List S27) (v : Int), 0 ≤ v → v + 2 * l.length ≤ 100000 → (pre ++ l).length ≤ 100000 → Ev (fun q => laws_markLogRecordS.l0 q (pre ++ l) v (pre.length : Int)) (v + 2 * l.length, pre ++ mkR v l) := by
  intro l
  induction l with
  | nil =>
    intro pre v h0 h1 hz
    refine Ev.step (f := fun _ => some (v, pre ++ [])) (fun q => ?_) ?_
    · simp only [laws_markLogRecordS.l0]
      rw [if_neg (by simp)]
    · have : v + 2 * (([] : List S27).length : Int) = v := by simp
      rw [this]; exact Ev.now _
  | cons a l ih =>
    intro pre v h0 h1 hz
    simp only [List.length_cons] at h1
    have hz' := hz
    simp only [List.length_append, List.length_cons] at hz'
    have h3 := ih (pre ++ [⟨mk v, mk (v + 1)⟩]) (v + 2) (by omega) (by omega) (by simp; omega)
    rw [List.append_assoc, List.append_assoc] at h3
    have e : v + 2 * ((a :: l).length : Int) = v + 2 + 2 * (l.length : Int) := by simp only [List.length_cons]; omega
    rw [e]
    refine Ev.step (f := fun q => (laws_markText.f q v).bind fun t364 => ((some ((pre ++ a :: l).set pre.length (⟨t364, a.f1⟩ : S27) : List S27)).bind fun y365 => ((laws_markText.f q (v + 1)).bind fun t366 => (laws_markLogRecordS.l0 q (y365.set pre.length (⟨(rd_T27 y365 (pre.length : Int)).f0, t366⟩ : S27)) (v + 2) ((pre.length + 1 : Nat) : Int))))) (fun q => ?_) (Ev.bind (mk_ev v (by omega) (by omega)) (Ev.bind (Ev.now _) (Ev.bind (mk_ev (v + 1) (by omega) (by omega)) ?_)))
    · simp only [laws_markLogRecordS.l0]
      rw [if_pos (by simp only [List.length_append, List.length_cons]; omega), rd27, Int.toNat_natCast, w64 (z := v + 1) (by omega), w64 (z := v + 1 + 1) (by omega), w64 (by omega)]
      simp only [show (0 : Int) ≤ (pre.length : Int) from by omega, if_true]
      have e2 : v + 1 + 1 = v + 2 := by omega
      rw [e2]
      rfl
    · refine Ev.congr (fun q => ?_) h3
      rw [set_at, set_at, rd27]
      simp
theorem heldR_loop : ∀ (l pre : List S27) (v : Int), 0 ≤ v → v + 2 * l.length ≤ 100000 → (pre ++ l).length ≤ 100000 → Ev (fun q => laws_heldLogRecordS.l0 q (pre ++ mkR v l) v (pre.length : Int)) (v + 2 * l.length) := by
  intro l
  induction l with
  | nil =>
    intro pre v h0 h1 hz
    refine Ev.step (f := fun _ => some v) (fun q => ?_) ?_
    · simp only [laws_heldLogRecordS.l0]
      rw [if_neg (by simp [mkR])]
    · have : v + 2 * (([] : List S27).length : Int) = v := by simp
      rw [this]; exact Ev.now _
  | cons a l ih =>
    intro pre v h0 h1 hz
    simp only [List.length_cons] at h1
    have hz' := hz
    simp only [List.length_append, List.length_cons] at hz'
    have h3 := ih (pre ++ [⟨mk v, mk (v + 1)⟩]) (v + 2) (by omega) (by omega) (by simp; omega)
    rw [List.append_assoc] at h3
    have e : v + 2 * ((a :: l).length : Int) = v + 2 + 2 * (l.length : Int) := by simp only [List.length_cons]; omega
    rw [e]
    unfold mkR
    refine Ev.step (f := fun q => (laws_markText.f q v).bind fun t369 => (if (mk v).toList = t369.toList then ((laws_markText.f q (v + 1)).bind fun t371 => (if (mk (v + 1)).toList = t371.toList then (laws_heldLogRecordS.l0 q (pre ++ ⟨mk v, mk (v + 1)⟩ :: mkR (v + 2) l) (v + 2) ((pre.length + 1 : Nat) : Int)) else (some (-1)))) else (some (-1)))) (fun q => ?_) (Ev.bind (mk_ev v (by omega) (by omega)) (Ev.congr (fun q => by rw [if_pos rfl]) (Ev.bind (mk_ev (v + 1) (by omega) (by omega)) (Ev.congr (fun q => by rw [if_pos rfl]) ?_))))
    · simp only [laws_heldLogRecordS.l0]
      rw [if_pos (by simp only [List.length_append, List.length_cons]; omega), rd27, w64 (z := v + 1) (by omega), w64 (z := v + 1 + 1) (by omega), w64 (by omega)]
      simp only [show (0 : Int) ≤ (pre.length : Int) from by omega, if_true]
      have e2 : v + 1 + 1 = v + 2 := by omega
      rw [e2]
      rfl
    · refine Ev.congr (fun q => ?_) h3
      simp
theorem markR_ev (l : List S27) (h : l.length ≤ 1000) : Ev (fun q => laws_markLogRecordS.f q l 1) (1 + 2 * l.length, mkR 1 l) := markR_loop l [] 1 (by omega) (by omega) (by simp; omega)
theorem heldR_ev (l : List S27) (h : l.length ≤ 1000) : Ev (fun q => laws_heldLogRecordS.f q (mkR 1 l) 1) (1 + 2 * l.length) := heldR_loop l [] 1 (by omega) (by omega) (by simp; omega)
theorem eqR_loop : ∀ (l pre : List S27), (pre ++ l).length ≤ 100000 → Ev (fun q => laws_eqLogRecordS.l0 q (pre ++ l) (pre ++ l) (pre.length : Int)) true := by
  intro l
  induction l with
  | nil =>
    intro pre hz
    refine Ev.step (f := fun _ => some true) (fun q => ?_) (Ev.now _)
    simp only [laws_eqLogRecordS.l0]
    rw [if_neg (by simp)]
  | cons a l ih =>
    intro pre hz
    have hz' := hz
    simp only [List.length_append, List.length_cons] at hz'
    have h3 := ih (pre ++ [a]) (by simp; omega)
    rw [List.append_assoc] at h3
    refine Ev.step (f := fun q => laws_eqLogRecordS.l0 q (pre ++ a :: l) (pre ++ a :: l) ((pre.length + 1 : Nat) : Int)) (fun q => ?_) (Ev.congr (fun q => by simp) h3)
    simp only [laws_eqLogRecordS.l0]
    have h4 : (pre.length : Int) < ((pre ++ a :: l).length : Int) := by simp only [List.length_append, List.length_cons]; omega
    rw [if_pos h4, if_pos (by omega), if_pos h4, rd27, w64 (by omega)]
    simp only [laws_eqLogRecord.f, if_true, Option.bind_some]
    rfl
theorem eqR_ev (l : List S27) (h : l.length ≤ 1000) : Ev (fun q => laws_eqLogRecordS.f q l l) true := by
  refine Ev.congr (fun q => ?_) (eqR_loop l [] (by simp; omega))
  unfold laws_eqLogRecordS.f
  rw [if_pos rfl]
  rfl
end Go.Proofs.YtccbpfconceoeaaDoor.Pure
