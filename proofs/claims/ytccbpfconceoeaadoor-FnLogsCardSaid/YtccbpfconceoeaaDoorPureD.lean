/- The two scans of a log tell the same, and what the scan of a text's beginning tells. No conditions but those that each theorem names. -/
import Derived.Test.YtccbpfconceoeaaDoorPx0
import Derived.Test.YtccbpfconceoeaaDoorPx10
import Derived.Test.YtccbpfconceoeaaDoorPx12
import Derived.Test.YtccbpfconceoeaaDoorPureA
import Derived.Test.YtccbpfconceoeaaDoorPureB
import Derived.Test.YtccbpfconceoeaaDoorPureC
namespace Go.Proofs.YtccbpfconceoeaaDoor.Pure
open Go.RowKit Go.Proofs.YtccbpfconceoeaaDoor.P Go.Proofs.YtccbpfconceoeaaDoorW.PrintWords Go.Proofs.YtccbpfconceoeaaDoorW.PrintLast Go.Proofs.YtccbpfconceoeaaDoorW.PrintMore
open Classical
/-- The record at the beginning of a text. -/
def recOf (l : List UInt8) : S27 := ⟨ba (pC (tw 10 l)), ba (pR (tw 10 l))⟩
/-- The scan: the records, and the places behind each. -/
noncomputable def scan (s : List UInt8) : Nat → List S27 → Nat → List S27 × List Nat
  | 0, acc, _ => (acc, [])
  | n + 1, acc, pos => if Good (acc.length : Int) (s.drop pos) then ((scan s n (acc ++ [recOf (s.drop pos)]) (pos + (tw 10 (s.drop pos)).length + 1)).1, (pos + (tw 10 (s.drop pos)).length + 1) :: (scan s n (acc ++ [recOf (s.drop pos)]) (pos + (tw 10 (s.drop pos)).length + 1)).2) else (acc, [])
/-- Where the scan ends. -/
def lastOf (pos : Nat) (es : List Nat) : Nat := es.foldl (fun _ e => e) pos
theorem lastOf_cons (p e : Nat) (es : List Nat) : lastOf p (e :: es) = lastOf e es := rfl
theorem good_len {k : Int} {l : List UInt8} (h : Good k l) : (tw 10 l).length + 1 ≤ l.length := by
  have := congrArg List.length (tw_mem 10 l h.1)
  simp only [List.length_append, List.length_cons] at this
  omega
theorem specOpen_ev (s : ByteArray) (hs : s.size ≤ 800000) : ∀ (n : Nat) (acc : List S27) (pos : Nat), acc.length + n = 60 → pos ≤ s.size →
    Ev (fun q => spec_l12Open.l0 q s acc (pos : Int)) ((scan (bs s) n acc pos).1, (lastOf pos (scan (bs s) n acc pos).2 : Int)) := by
  intro n
  induction n with
  | zero =>
    intro acc pos hn hp
    refine Ev.step (f := fun q => spec_l12Open.j1 q s acc (pos : Int) false) (fun q => ?_) (Ev.step (f := fun _ => some (acc, (pos : Int))) (fun q => ?_) (Ev.now _))
    · simp only [spec_l12Open.l0]
      rw [decide_eq_false (show ¬ ((acc.length : Int) < 60) by omega)]
      split <;> rfl
    · simp [spec_l12Open.j1]
  | succ n ih =>
    intro acc pos hn hp
    have stop : ∀ b, (b = false) → Ev (fun q => spec_l12Open.j1 q s acc (pos : Int) b) (acc, (pos : Int)) := by
      rintro b rfl
      exact Ev.step (f := fun _ => some (acc, (pos : Int))) (fun q => by simp [spec_l12Open.j1]) (Ev.now _)
    have hl := bs_len s
    by_cases he : pos < s.size
    · have e1 : s.extract pos s.size = ba ((bs s).drop pos) := bs_inj (by rw [bs_extract, bs_ba, ← hl, List.take_length])
      obtain ⟨R, hR⟩ : ∃ R, (bs s).drop pos = R := ⟨_, rfl⟩
      have hRl : R.length = s.size - pos := by rw [← hR, List.length_drop, hl]
      obtain ⟨u, hu, hu0, hu1, hu2⟩ := split_ev (ba R) 10 (by rw [ba_size]; omega)
      rw [bs_ba] at hu1 hu2
      have hT := tw_len 10 R
      have key : ∀ v, Ev (fun q => (spec_l12Decode.f q (ba (tw 10 R)) (acc.length : Int)).bind fun bt173 => (if (u.length : Int) < 2 then (some (acc, (pos : Int))) else (if bt173.2.2 = true then (if acc.length < 4398046511104 then (spec_l12Open.l0 q s (acc ++ [(⟨bt173.1, bt173.2.1⟩ : S27)]) ((pos + (tw 10 R).length + 1 : Nat) : Int)) else (none)) else (some (acc, (pos : Int)))))) v → Ev (fun q => spec_l12Open.l0 q s acc (pos : Int)) v := by
        intro v hv
        refine Ev.step (f := fun q => spec_l12Open.j1 q s acc (pos : Int) true) (fun q => ?_) (Ev.step (f := fun q => (spec_l1Split.f q (ba R) 10).bind fun t169 => (if 0 < (t169.length : Int) then ((spec_l12Decode.f q (rdOf ByteArray.empty t169 0) (acc.length : Int)).bind fun bt173 => (if (t169.length : Int) < 2 then (some (acc, (pos : Int))) else (if bt173.2.2 = true then (if acc.length < 4398046511104 then (spec_l12Open.l0 q s (acc ++ [(⟨bt173.1, bt173.2.1⟩ : S27)]) (wrap64 ((wrap64 ((pos : Int) + ((rdOf ByteArray.empty t169 0).size : Int))) + 1))) else (none)) else (some (acc, (pos : Int)))))) else (none))) (fun q => ?_) (Ev.bind hu ?_))
        · simp only [spec_l12Open.l0]
          rw [if_pos (by omega), decide_eq_true (show (acc.length : Int) < 60 by omega)]
        · simp only [spec_l12Open.j1]
          simp only [if_true]
          rw [if_pos (by omega), if_pos (by omega), Int.toNat_natCast, e1, hR]
        · refine Ev.congr (fun q => ?_) hv
          rw [if_pos (by omega), hu1, ba_size, w64 (z := (pos : Int) + ((tw 10 R).length : Int)) (by omega), w64 (by omega)]
          rfl
      unfold scan
      rw [hR]
      by_cases hm : 10 ∈ R
      · have hu3 : ¬ ((u.length : Int) < 2) := fun h => hu2.1 (by omega) hm
        rcases specDecode_ev (tw 10 R) (acc.length : Int) (by omega) (by omega) (by omega) with ⟨hg, c, r, hd⟩ | ⟨hg, hd⟩
        · rw [if_neg (fun h => hg h.2)]
          exact key (acc, (pos : Int)) (Ev.bind hd (Ev.congr (fun q => by rw [if_neg hu3, if_neg (by simp)]) (Ev.now _)))
        · have hgd : Good (acc.length : Int) R := ⟨hm, hg⟩
          have := good_len hgd
          rw [if_pos hgd]
          refine key _ (Ev.bind hd (Ev.congr (fun q => ?_) (ih (acc ++ [recOf R]) (pos + (tw 10 R).length + 1) (by simp; omega) (by omega))))
          rw [if_neg hu3, if_pos rfl, if_pos (by omega)]
          rfl
      · have hu3 : (u.length : Int) < 2 := by have := hu2.2 hm; omega
        rw [if_neg (fun h => hm h.1)]
        rcases specDecode_ev (tw 10 R) (acc.length : Int) (by omega) (by omega) (by omega) with ⟨hg, c, r, hd⟩ | ⟨hg, hd⟩
        · exact key (acc, (pos : Int)) (Ev.bind hd (Ev.congr (fun q => by rw [if_pos hu3]) (Ev.now _)))
        · exact key (acc, (pos : Int)) (Ev.bind hd (Ev.congr (fun q => by rw [if_pos hu3]) (Ev.now _)))
    · have e0 : (bs s).drop pos = [] := List.drop_eq_nil_of_le (by omega)
      unfold scan
      rw [e0, if_neg (fun h => by have := h.1; simp at this)]
      refine Ev.step (f := fun q => spec_l12Open.j1 q s acc (pos : Int) false) (fun q => ?_) (stop false rfl)
      simp only [spec_l12Open.l0]
      rw [if_neg (by omega)]
theorem records_ev (s : ByteArray) (hs : s.size ≤ 800000) : ∀ (n : Nat) (acc : List S27) (ends : List Int) (pos : Nat), acc.length + n = 60 → ends.length ≤ 100 + acc.length → pos ≤ s.size →
    Ev (fun q => impl_records.l0 q s acc ends (pos : Int)) ((scan (bs s) n acc pos).1, ends ++ (scan (bs s) n acc pos).2.map (fun (e : Nat) => (e : Int))) := by
  intro n
  induction n with
  | zero =>
    intro acc ends pos hn _ hp
    refine Ev.step (f := fun _ => some (acc, ends)) (fun q => ?_) ?_
    · simp only [impl_records.l0]
      rw [if_neg (by omega)]
    · unfold scan; simp only [List.map_nil, List.append_nil]; exact Ev.now _
  | succ n ih =>
    intro acc ends pos hn hen hp
    have hl := bs_len s
    have e1 : s.extract pos s.size = ba ((bs s).drop pos) := bs_inj (by rw [bs_extract, bs_ba, ← hl, List.take_length])
    obtain ⟨R, hR⟩ : ∃ R, (bs s).drop pos = R := ⟨_, rfl⟩
    have hRl : R.length = s.size - pos := by rw [← hR, List.length_drop, hl]
    have key : ∀ v, Ev (fun q => (impl_decode.f q (ba R) (acc.length : Int)).bind fun bt206 => (if bt206.2.2.2 = true then (if acc.length < 4398046511104 then (if ends.length < 17592186044416 then (impl_records.l0 q s (acc ++ [(⟨bt206.1, bt206.2.1⟩ : S27)]) (ends ++ [wrap64 ((pos : Int) + bt206.2.2.1)]) (wrap64 ((pos : Int) + bt206.2.2.1))) else (none)) else (none)) else (some (acc, ends)))) v → Ev (fun q => impl_records.l0 q s acc ends (pos : Int)) v := by
      intro v hv
      refine Ev.step (fun q => ?_) hv
      simp only [impl_records.l0]
      rw [if_pos (by omega), if_pos (by omega), if_pos (by omega), Int.toNat_natCast, e1, hR]
    have hd := decode_ev (ba R) (acc.length : Int) (by rw [ba_size]; omega) (by omega) (by omega)
    rw [bs_ba] at hd
    unfold scan
    rw [hR]
    rcases hd with ⟨hg, c, r, m, hd⟩ | ⟨hg, hd⟩
    · rw [if_neg hg]
      simp only [List.map_nil, List.append_nil]
      exact key (acc, ends) (Ev.bind hd (Ev.congr (fun q => by rw [if_neg (by simp)]) (Ev.now _)))
    · have := good_len hg
      rw [if_pos hg]
      have ih' := ih (acc ++ [recOf R]) (ends ++ [((pos + (tw 10 R).length + 1 : Nat) : Int)]) (pos + (tw 10 R).length + 1) (by simp; omega) (by simp; omega) (by omega)
      rw [List.append_assoc] at ih'
      refine key _ (Ev.bind hd (Ev.congr (fun q => ?_) ih'))
      have h1 : ends.length < 17592186044416 := by omega
      rw [if_pos rfl, if_pos (by omega), if_pos h1]
      show impl_records.l0 q s (acc ++ [recOf R]) (ends ++ [wrap64 ((pos : Int) + (((tw 10 R).length : Int) + 1))]) (wrap64 ((pos : Int) + (((tw 10 R).length : Int) + 1))) = _
      rw [w64 (by omega)]
      rfl
/-! ### What a scan tells of a text's beginning -/
theorem scan_ge (s : List UInt8) : ∀ (n : Nat) (acc : List S27) (pos : Nat), ∀ e ∈ (scan s n acc pos).2, pos < e := by
  intro n
  induction n with
  | zero => intro acc pos e h; simp [scan] at h
  | succ n ih =>
    intro acc pos e h
    unfold scan at h
    by_cases hg : Good (acc.length : Int) (s.drop pos)
    · rw [if_pos hg] at h
      rcases List.mem_cons.1 h with h | h
      · omega
      · have := ih _ _ e h; omega
    · rw [if_neg hg] at h; simp at h
theorem scan_le (s : List UInt8) : ∀ (n : Nat) (acc : List S27) (pos : Nat), ∀ e ∈ (scan s n acc pos).2, e ≤ s.length := by
  intro n
  induction n with
  | zero => intro acc pos e h; simp [scan] at h
  | succ n ih =>
    intro acc pos e h
    unfold scan at h
    by_cases hg : Good (acc.length : Int) (s.drop pos)
    · have hl := good_len hg
      rw [List.length_drop] at hl
      rw [if_pos hg] at h
      rcases List.mem_cons.1 h with h | h
      · omega
      · exact ih _ _ e h
    · rw [if_neg hg] at h; simp at h
theorem scan_len (s : List UInt8) : ∀ (n : Nat) (acc : List S27) (pos : Nat), (scan s n acc pos).1.length ≤ acc.length + n ∧ (scan s n acc pos).2.length ≤ n := by
  intro n
  induction n with
  | zero => intro acc pos; simp [scan]
  | succ n ih =>
    intro acc pos
    unfold scan
    by_cases hg : Good (acc.length : Int) (s.drop pos)
    · rw [if_pos hg]
      have := ih (acc ++ [recOf (s.drop pos)]) (pos + (tw 10 (s.drop pos)).length + 1)
      simp only [List.length_append, List.length_cons, List.length_nil] at this ⊢
      omega
    · rw [if_neg hg]; simp
theorem tw_two (x : UInt8) (a b : List UInt8) (h : x ∈ a) : tw x (a ++ b) = tw x a := by
  have := tw_mem x a h
  have h2 : a ++ b = tw x a ++ x :: (dw x a ++ b) := by
    conv => lhs; rw [this]
    simp
  rw [h2]; exact (tw_app x _ _ (tw_no x a)).1
theorem good_two (k : Int) (a b : List UInt8) : (Good k a → Good k (a ++ b) ∧ tw 10 (a ++ b) = tw 10 a) ∧ (Good k (a ++ b) → (tw 10 (a ++ b)).length + 1 ≤ a.length → Good k a) := by
  constructor
  · intro h
    have e := tw_two 10 a b h.1
    exact ⟨⟨List.mem_append_left _ h.1, by rw [e]; exact h.2⟩, e⟩
  · intro h hl
    have hm := tw_mem 10 (a ++ b) h.1
    have h10 : 10 ∈ a := by
      have e2 := congrArg (fun l => l[(tw 10 (a ++ b)).length]?) hm
      simp only [List.getElem?_append_right (Nat.le_refl _), Nat.sub_self, List.getElem?_cons_zero] at e2
      rw [List.getElem?_append_left (by omega)] at e2
      exact List.mem_of_getElem? e2
    exact ⟨h10, by rw [← tw_two 10 a b h10]; exact h.2⟩
theorem scan_cut (a b : List UInt8) : ∀ (n : Nat) (acc : List S27) (pos : Nat), pos ≤ a.length →
    (lastOf pos (scan a n acc pos).2 = a.length ↔ a.length ∈ pos :: (scan (a ++ b) n acc pos).2) := by
  intro n
  induction n with
  | zero => intro acc pos _; simp [scan, lastOf, eq_comm]
  | succ n ih =>
    intro acc pos hp
    have ed : (a ++ b).drop pos = a.drop pos ++ b := List.drop_append_of_le_length hp
    have g2 := good_two (acc.length : Int) (a.drop pos) b
    by_cases hg : Good (acc.length : Int) (a.drop pos)
    · have hl := good_len hg
      rw [List.length_drop] at hl
      have ih' := ih (acc ++ [recOf (a.drop pos)]) (pos + (tw 10 (a.drop pos)).length + 1) (by omega)
      have er : recOf (a.drop pos ++ b) = recOf (a.drop pos) := by unfold recOf; rw [(g2.1 hg).2]
      unfold scan
      rw [ed, if_pos hg, if_pos (g2.1 hg).1, (g2.1 hg).2, er, lastOf_cons, ih']
      simp only [List.mem_cons]
      constructor
      · intro h; exact .inr h
      · rintro (h | h)
        · omega
        · exact h
    · have : lastOf pos (scan a (n + 1) acc pos).2 = pos := by
        conv => lhs; unfold scan
        rw [if_neg hg]; rfl
      rw [this]
      by_cases hg2 : Good (acc.length : Int) (a.drop pos ++ b)
      · have hlt : ¬ (tw 10 (a.drop pos ++ b)).length + 1 ≤ (a.drop pos).length := fun h => hg (g2.2 hg2 h)
        rw [List.length_drop] at hlt
        conv => rhs; unfold scan
        rw [ed, if_pos hg2]
        simp only [List.mem_cons]
        constructor
        · intro h; exact .inl h.symm
        · rintro (h | h | h)
          · exact h.symm
          · omega
          · have := scan_ge _ _ _ _ _ h; omega
      · conv => rhs; unfold scan
        rw [ed, if_neg hg2]
        simp [eq_comm]
end Go.Proofs.YtccbpfconceoeaaDoor.Pure
