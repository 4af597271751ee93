/- Scans of a log's beginning, of a log behind a crash, and of what is recovered. No conditions but those that each theorem names. -/
import Derived.Test.YtccbpfconceoeaaDoorPx0
import Derived.Test.YtccbpfconceoeaaDoorPureA
import Derived.Test.YtccbpfconceoeaaDoorPureB
import Derived.Test.YtccbpfconceoeaaDoorPureD
import Derived.Test.YtccbpfconceoeaaDoorPureE
namespace Go.Proofs.YtccbpfconceoeaaDoor.Pure
open Go.RowKit Go.Proofs.YtccbpfconceoeaaDoor.P Go.Proofs.YtccbpfconceoeaaDoorW.PrintWords Go.Proofs.YtccbpfconceoeaaDoorW.PrintLast Go.Proofs.YtccbpfconceoeaaDoorW.PrintMore
open Classical
theorem scan_acc (s : List UInt8) : ∀ (n : Nat) (acc : List S27) (pos : Nat), ∃ rest, (scan s n acc pos).1 = acc ++ rest := by
  intro n
  induction n with
  | zero => intro acc pos; exact ⟨[], by simp [scan]⟩
  | succ n ih =>
    intro acc pos
    unfold scan
    by_cases hg : Good (acc.length : Int) (s.drop pos)
    · rw [if_pos hg]
      obtain ⟨rest, h⟩ := ih (acc ++ [recOf (s.drop pos)]) (pos + (tw 10 (s.drop pos)).length + 1)
      exact ⟨recOf (s.drop pos) :: rest, by simp only; rw [h]; simp⟩
    · rw [if_neg hg]; exact ⟨[], by simp⟩
theorem scan_pre (a b : List UInt8) : ∀ (n : Nat) (acc : List S27) (pos : Nat), pos ≤ a.length → ∃ rest, (scan (a ++ b) n acc pos).1 = (scan a n acc pos).1 ++ rest := by
  intro n
  induction n with
  | zero => intro acc pos _; exact ⟨[], by simp [scan]⟩
  | succ n ih =>
    intro acc pos hp
    have ed : (a ++ b).drop pos = a.drop pos ++ b := List.drop_append_of_le_length hp
    have g2 := good_two (acc.length : Int) (a.drop pos) b
    by_cases hg : Good (acc.length : Int) (a.drop pos)
    · have hl := good_len hg
      rw [List.length_drop] at hl
      have er : recOf (a.drop pos ++ b) = recOf (a.drop pos) := by unfold recOf; rw [(g2.1 hg).2]
      unfold scan
      rw [ed, if_pos hg, if_pos (g2.1 hg).1, (g2.1 hg).2, er]
      exact ih (acc ++ [recOf (a.drop pos)]) (pos + (tw 10 (a.drop pos)).length + 1) (by omega)
    · have e1 : (scan a (n + 1) acc pos).1 = acc := by
        conv => lhs; unfold scan
        rw [if_neg hg]
      rw [e1]
      exact scan_acc _ _ _ _
theorem lastOf_ge : ∀ (es : List Nat) (p : Nat), (∀ e ∈ es, p ≤ e) → p ≤ lastOf p es
  | [], p, _ => Nat.le_refl _
  | e :: es, p, h => by
    have : lastOf p (e :: es) = lastOf e es := rfl
    rw [this]
    have h1 := h e (List.mem_cons_self ..)
    cases es with
    | nil => exact h1
    | cons e2 es2 =>
      have h2 := h e2 (List.mem_cons_of_mem _ (List.mem_cons_self ..))
      show p ≤ lastOf e2 es2
      exact lastOf_ge (e2 :: es2) p (fun x hx => h x (List.mem_cons_of_mem _ hx))
theorem scan_last_ge (s : List UInt8) (n : Nat) (acc : List S27) (pos : Nat) : pos ≤ lastOf pos (scan s n acc pos).2 := lastOf_ge _ _ (fun e he => Nat.le_of_lt (scan_ge s n acc pos e he))
theorem scan_last_mem (s : List UInt8) : ∀ (n : Nat) (acc : List S27) (pos : Nat), ∀ e ∈ pos :: (scan s n acc pos).2, e ≤ lastOf pos (scan s n acc pos).2 := by
  intro n
  induction n with
  | zero => intro acc pos e h; simp [scan] at h; simp [scan, lastOf, h]
  | succ n ih =>
    intro acc pos e h
    rcases List.mem_cons.1 h with h | h
    · rw [h]; exact scan_last_ge _ _ _ _
    · unfold scan at h ⊢
      by_cases hg : Good (acc.length : Int) (s.drop pos)
      · rw [if_pos hg] at h ⊢
        rw [lastOf_cons]
        exact ih _ _ e h
      · rw [if_neg hg] at h; simp at h
theorem scan_own (s : List UInt8) : ∀ (n : Nat) (acc : List S27) (pos : Nat), pos ≤ s.length → scan (s.take (lastOf pos (scan s n acc pos).2)) n acc pos = scan s n acc pos := by
  intro n
  induction n with
  | zero => intro acc pos _; simp [scan]
  | succ n ih =>
    intro acc pos hp
    by_cases hg : Good (acc.length : Int) (s.drop pos)
    · have hl := good_len hg
      rw [List.length_drop] at hl
      have ih' := ih (acc ++ [recOf (s.drop pos)]) (pos + (tw 10 (s.drop pos)).length + 1) (by omega)
      have hge := scan_last_ge s n (acc ++ [recOf (s.drop pos)]) (pos + (tw 10 (s.drop pos)).length + 1)
      have el : lastOf pos (scan s (n + 1) acc pos).2 = lastOf (pos + (tw 10 (s.drop pos)).length + 1) (scan s n (acc ++ [recOf (s.drop pos)]) (pos + (tw 10 (s.drop pos)).length + 1)).2 := by
        conv => lhs; unfold scan
        rw [if_pos hg, lastOf_cons]
      rw [el]
      obtain ⟨E, hE⟩ : ∃ E, lastOf (pos + (tw 10 (s.drop pos)).length + 1) (scan s n (acc ++ [recOf (s.drop pos)]) (pos + (tw 10 (s.drop pos)).length + 1)).2 = E := ⟨_, rfl⟩
      rw [hE] at ih' hge ⊢
      have hE2 : E ≤ s.length := by rw [← hE]; exact lastOf_le _ _ _ (by omega) (scan_le s n _ _)
      have ed : s.drop pos = (s.take E).drop pos ++ s.drop E := by
        have h1 : s = s.take E ++ s.drop E := (List.take_append_drop E s).symm
        conv => lhs; rw [h1]
        exact List.drop_append_of_le_length (by rw [List.length_take]; omega)
      have g2 := good_two (acc.length : Int) ((s.take E).drop pos) (s.drop E)
      rw [← ed] at g2
      have hga := g2.2 hg (by rw [List.length_drop, List.length_take]; omega)
      have et := (g2.1 hga).2
      have er : recOf ((s.take E).drop pos) = recOf (s.drop pos) := by unfold recOf; rw [et]
      conv => lhs; unfold scan
      conv => rhs; unfold scan
      rw [if_pos hga, if_pos hg, er, ← et, ih']
    · have el : lastOf pos (scan s (n + 1) acc pos).2 = pos := by
        conv => lhs; unfold scan
        rw [if_neg hg]; rfl
      rw [el]
      have e0 : (s.take pos).drop pos = [] := List.drop_eq_nil_of_le (by rw [List.length_take]; omega)
      conv => lhs; unfold scan
      conv => rhs; unfold scan
      rw [e0, if_neg hg, if_neg (fun h => by have := h.1; simp at this)]
theorem scan_torn (c : List UInt8) (x : UInt8) (hx : x ≠ 10) : ∀ (n : Nat) (acc : List S27) (pos : Nat), pos ≤ c.length → scan (c ++ [x]) n acc pos = scan c n acc pos := by
  intro n
  induction n with
  | zero => intro acc pos _; simp [scan]
  | succ n ih =>
    intro acc pos hp
    have ed : (c ++ [x]).drop pos = c.drop pos ++ [x] := List.drop_append_of_le_length hp
    have g2 := good_two (acc.length : Int) (c.drop pos) [x]
    by_cases hg : Good (acc.length : Int) (c.drop pos)
    · have hl := good_len hg
      rw [List.length_drop] at hl
      have er : recOf (c.drop pos ++ [x]) = recOf (c.drop pos) := by unfold recOf; rw [(g2.1 hg).2]
      conv => lhs; unfold scan
      conv => rhs; unfold scan
      rw [ed, if_pos hg, if_pos (g2.1 hg).1, (g2.1 hg).2, er, ih _ _ (by omega)]
    · have hn : ¬ Good (acc.length : Int) (c.drop pos ++ [x]) := by
        intro h
        have h10 : 10 ∈ c.drop pos := by
          rcases List.mem_append.1 h.1 with h | h
          · exact h
          · exact absurd (List.mem_singleton.1 h).symm hx
        exact hg ⟨h10, by rw [← tw_two 10 _ [x] h10]; exact h.2⟩
      conv => lhs; unfold scan
      conv => rhs; unfold scan
      rw [ed, if_neg hg, if_neg hn]
theorem sealed_245 (k : Int) (c r : ByteArray) (h0 : 0 ≤ k) (h : recB c r = true) : ∀ b ∈ bs (sealB (headB k c r)), b ≠ 245 := by
  have hb := recB_bytes h
  have hs := sumL_range (bs (headB k c r)) 7 (by omega) (by omega)
  have hk : ∀ b, okB b = true → b ≠ 245 := by
    intro b hb e
    have := okB_range hb
    rw [e] at this
    have e10 : (245 : UInt8).toNat = 245 := rfl
    omega
  have hn : ∀ n : Int, 0 ≤ n → ∀ b ∈ bs (num n), b ≠ 245 := by
    intro n h0 b hb e
    have := num_range n h0 b hb
    rw [e] at this
    have e10 : (245 : UInt8).toNat = 245 := rfl
    omega
  intro b hm
  rw [bs_sealB, List.mem_append, List.mem_cons] at hm
  have hh : b ∈ bs (headB k c r) → b ∈ bs (num k) ∨ b = 32 ∨ b ∈ bs c ∨ b = 64 ∨ b ∈ bs r := by
    rw [bs_headB]; simp only [List.mem_append, List.mem_cons]; exact id
  rcases hm with hm | rfl | hm
  rcases hh hm with hm | rfl | hm | rfl | hm
  · exact hn k h0 b hm
  · decide
  · exact hk b (hb.1 b hm).1
  · decide
  · exact hk b (hb.2 b hm)
  · decide
  · exact hn _ hs.1 b hm
theorem scan_245 (s : List UInt8) : ∀ (n : Nat) (acc : List S27) (pos : Nat), pos ≤ s.length → lastOf pos (scan s n acc pos).2 = s.length → ∀ b ∈ s.drop pos, b ≠ 245 := by
  intro n
  induction n with
  | zero =>
    intro acc pos _ hl b hb
    have : pos = s.length := by simpa [scan, lastOf] using hl
    rw [this, List.drop_length] at hb
    simp at hb
  | succ n ih =>
    intro acc pos hp hl b hb
    by_cases hg : Good (acc.length : Int) (s.drop pos)
    · have hlen := good_len hg
      rw [List.length_drop] at hlen
      unfold scan at hl
      rw [if_pos hg, lastOf_cons] at hl
      have h3 := ih _ _ (by omega) hl
      have hm := tw_mem 10 (s.drop pos) hg.1
      have hd : s.drop (pos + (tw 10 (s.drop pos)).length + 1) = dw 10 (s.drop pos) := by
        rw [Nat.add_assoc, ← List.drop_drop]
        generalize hT : tw 10 (s.drop pos) = T at *
        generalize hD : dw 10 (s.drop pos) = D at *
        rw [hm]; simp [List.drop_append]
      rw [hd] at h3
      rw [hm] at hb
      rcases List.mem_append.1 hb with hb | hb
      · have hgl := hg.2
        have := hgl.2
        rw [this] at hb
        exact sealed_245 _ _ _ (by omega) hgl.1 b hb
      · rcases List.mem_cons.1 hb with hb | hb
        · rw [hb]; decide
        · exact h3 b hb
    · unfold scan at hl
      rw [if_neg hg] at hl
      have : pos = s.length := hl
      rw [this, List.drop_length] at hb
      simp at hb
end Go.Proofs.YtccbpfconceoeaaDoor.Pure
