/- Plain facts: the lines of a log, and that both decoders and both scans tell the same of a text. No conditions but those that each theorem names. -/
import Derived.Test.YtccbpfconceoeaaDoorPx0
import Derived.Test.YtccbpfconceoeaaDoorPureA
namespace Go.Proofs.YtccbpfconceoeaaDoor.Pure
open Go.RowKit Go.Proofs.YtccbpfconceoeaaDoor.P Go.Proofs.YtccbpfconceoeaaDoorW.PrintWords Go.Proofs.YtccbpfconceoeaaDoorW.PrintLast Go.Proofs.YtccbpfconceoeaaDoorW.PrintMore

/-! ### Texts cut at a byte -/
/-- What stands ahead of the first x. -/
def tw (x : UInt8) : List UInt8 → List UInt8
  | [] => []
  | c :: l => if c = x then [] else c :: tw x l
/-- What stands behind the first x. -/
def dw (x : UInt8) : List UInt8 → List UInt8
  | [] => []
  | c :: l => if c = x then l else dw x l
theorem tw_cons (x c : UInt8) (l : List UInt8) : tw x (c :: l) = if c = x then [] else c :: tw x l := rfl
theorem dw_cons (x c : UInt8) (l : List UInt8) : dw x (c :: l) = if c = x then l else dw x l := rfl
theorem tw_mem (x : UInt8) : ∀ (l : List UInt8), x ∈ l → l = tw x l ++ x :: dw x l
  | [], h => by simp at h
  | c :: l, h => by
    unfold tw dw
    by_cases e : c = x
    · rw [if_pos e, if_pos e, e]; rfl
    · rw [if_neg e, if_neg e, List.cons_append, ← tw_mem x l (by rcases List.mem_cons.1 h with h | h; exact absurd h.symm e; exact h)]
theorem tw_not (x : UInt8) : ∀ (l : List UInt8), x ∉ l → tw x l = l ∧ dw x l = []
  | [], _ => ⟨rfl, rfl⟩
  | c :: l, h => by
    have h1 : ¬ c = x := fun e => h (e ▸ List.mem_cons_self ..)
    have := tw_not x l (fun h2 => h (List.mem_cons_of_mem _ h2))
    unfold tw dw
    rw [if_neg h1, if_neg h1, this.1, this.2]
    exact ⟨rfl, rfl⟩
theorem tw_app (x : UInt8) : ∀ (a t : List UInt8), (∀ b ∈ a, b ≠ x) → tw x (a ++ x :: t) = a ∧ dw x (a ++ x :: t) = t
  | [], t, _ => by unfold tw dw; simp
  | c :: a, t, h => by
    have h1 : ¬ c = x := h c (List.mem_cons_self ..)
    have := tw_app x a t (fun b hb => h b (List.mem_cons_of_mem _ hb))
    rw [List.cons_append]
    unfold tw dw
    rw [if_neg h1, if_neg h1, this.1, this.2]
    exact ⟨rfl, rfl⟩
theorem tw_no (x : UInt8) : ∀ (l : List UInt8), ∀ b ∈ tw x l, b ≠ x
  | [], _, h => by simp [tw] at h
  | c :: l, b, h => by
    unfold tw at h
    by_cases e : c = x
    · rw [if_pos e] at h; simp at h
    · rw [if_neg e] at h
      rcases List.mem_cons.1 h with h | h
      · exact h ▸ e
      · exact tw_no x l b h
theorem tw_len (x : UInt8) : ∀ (l : List UInt8), (tw x l).length ≤ l.length
  | [] => Nat.le_refl _
  | c :: l => by
    unfold tw
    have := tw_len x l
    by_cases e : c = x
    · rw [if_pos e]; simp
    · rw [if_neg e]; simp; omega
theorem tw_full (x : UInt8) (l : List UInt8) (h : (tw x l).length = l.length) : x ∉ l := by
  intro hm
  have := congrArg List.length (tw_mem x l hm)
  simp at this
  omega
theorem idx_yes (x : UInt8) : ∀ (l : List UInt8), x ∈ l → Lib.indexByte l x = ((tw x l).length : Int)
  | [], h => by simp at h
  | c :: l, h => by
    unfold Lib.indexByte tw
    by_cases e : c = x
    · rw [if_pos e, if_pos (by simpa using e)]; rfl
    · have ih := idx_yes x l (by rcases List.mem_cons.1 h with h | h; exact absurd h.symm e; exact h)
      rw [if_neg e, if_neg (by simpa using e), ih, if_neg (by simp)]
      simp
theorem idx_no (x : UInt8) (l : List UInt8) (h : x ∉ l) : Lib.indexByte l x = -1 := indexByte_none' l x (fun b hb e => h (e ▸ hb))
/-- The text of bytes. -/
def ba (l : List UInt8) : ByteArray := ⟨l.toArray⟩
theorem bs_ba (l : List UInt8) : bs (ba l) = l := by simp [bs, ba]
theorem ba_bs (s : ByteArray) : ba (bs s) = s := by simp [bs, ba]
theorem ba_size (l : List UInt8) : (ba l).size = l.length := by rw [← bs_len, bs_ba]
theorem bs_inj {a b : ByteArray} (h : bs a = bs b) : a = b := by rw [← ba_bs a, ← ba_bs b, h]
theorem bs_extract (s : ByteArray) (a b : Nat) : bs (s.extract a b) = ((bs s).take b).drop a := by
  simp [bs, ByteArray.data_extract, List.drop_take]
theorem bs_one (c : UInt8) : bs (⟨#[c]⟩ : ByteArray) = [c] := by simp [bs]
theorem cut1_bs (s : ByteArray) (x : UInt8) : bs (cut1 s x).1 = tw x (bs s) ∧ bs (cut1 s x).2.1 = dw x (bs s) := by
  unfold cut1
  by_cases h : x ∈ bs s
  · have hi := idx_yes x (bs s) h
    have hi' : Lib.indexByte s.data.toList x = ((tw x (bs s)).length : Int) := hi
    have hm := tw_mem x (bs s) h
    have hl := bs_len s
    rw [hi', if_pos (by omega)]
    simp only [Int.toNat_natCast]
    rw [bs_extract, bs_extract, ← hl, List.take_length, List.drop_zero]
    generalize hT : tw x (bs s) = T at *
    generalize hD : dw x (bs s) = D at *
    rw [hm]
    constructor
    · simp
    · simp [List.drop_append]
  · have hi' : Lib.indexByte s.data.toList x = -1 := idx_no x (bs s) h
    have := tw_not x (bs s) h
    rw [hi', if_neg (by omega), this.1, this.2]
    exact ⟨rfl, rfl⟩

/-! ### The lines of a log -/
def pH (l : List UInt8) : List UInt8 := tw 35 l
def pC (l : List UInt8) : List UInt8 := tw 64 (dw 32 (pH l))
def pR (l : List UInt8) : List UInt8 := dw 64 (dw 32 (pH l))
theorem bs_headB (k : Int) (c r : ByteArray) : bs (headB k c r) = bs (num k) ++ 32 :: (bs c ++ 64 :: bs r) := by
  unfold headB
  simp only [bs_append, bs_one]
  simp
theorem bs_sealB (s : ByteArray) : bs (sealB s) = bs s ++ 35 :: bs (num (sumL (bs s) 7)) := by
  unfold sealB
  simp only [bs_append, bs_one]
  simp
theorem bs_lineB (k : Int) (c r : ByteArray) : bs (lineB k c r) = bs (sealB (headB k c r)) ++ [10] := by
  unfold lineB
  simp only [bs_append, bs_one]
theorem num_ne (n : Int) (h : 0 ≤ n) (x : UInt8) (hx : x.toNat < 48) : ∀ b ∈ bs (num n), b ≠ x := by
  intro b hb e
  have := num_range n h b hb
  rw [e] at this; omega
theorem parse_head (k : Int) (c r : ByteArray) (h0 : 0 ≤ k) (h : recB c r = true) : dw 32 (bs (headB k c r)) = bs c ++ 64 :: bs r ∧ tw 64 (bs c ++ 64 :: bs r) = bs c ∧ dw 64 (bs c ++ 64 :: bs r) = bs r := by
  have hb := recB_bytes h
  rw [bs_headB]
  exact ⟨(tw_app 32 _ _ (num_ne k h0 32 (by decide))).2, tw_app 64 _ _ (fun b h => (hb.1 b h).2)⟩
theorem sealed_head (k : Int) (c r : ByteArray) (h0 : 0 ≤ k) (h : recB c r = true) : tw 35 (bs (sealB (headB k c r))) = bs (headB k c r) := by
  rw [bs_sealB]
  exact (tw_app 35 _ _ (headB_35 k c r h0 h)).1
theorem parse_line (k : Int) (c r : ByteArray) (h0 : 0 ≤ k) (h : recB c r = true) : pC (bs (sealB (headB k c r))) = bs c ∧ pR (bs (sealB (headB k c r))) = bs r := by
  unfold pC pR pH
  obtain ⟨e1, e2, e3⟩ := parse_head k c r h0 h
  rw [sealed_head k c r h0 h, e1]
  exact ⟨e2, e3⟩
theorem sealed_10 (k : Int) (c r : ByteArray) (h0 : 0 ≤ k) (h : recB c r = true) : ∀ b ∈ bs (sealB (headB k c r)), b ≠ 10 := by
  have hb := recB_bytes h
  have hs := sumL_range (bs (headB k c r)) 7 (by omega) (by omega)
  have h10 : ∀ b, okB b = true → b ≠ 10 := by
    intro b hb e
    have := okB_range hb
    rw [e] at this
    have e10 : (10 : UInt8).toNat = 10 := rfl
    omega
  intro b hm
  rw [bs_sealB, List.mem_append, List.mem_cons] at hm
  have hh : b ∈ bs (headB k c r) → b ∈ bs (num k) ∨ b = 32 ∨ b ∈ bs c ∨ b = 64 ∨ b ∈ bs r := by
    rw [bs_headB]; simp only [List.mem_append, List.mem_cons]; exact id
  rcases hm with hm | rfl | hm
  rcases hh hm with hm | rfl | hm | rfl | hm
  · exact num_ne k h0 10 (by decide) b hm
  · decide
  · exact h10 b (hb.1 b hm).1
  · decide
  · exact h10 b (hb.2 b hm)
  · decide
  · exact num_ne _ hs.1 10 (by decide) b hm
/-- A line (without its end) that is the line of a record with the number k. -/
def GoodL (k : Int) (l : List UInt8) : Prop := recB (ba (pC l)) (ba (pR l)) = true ∧ l = bs (sealB (headB k (ba (pC l)) (ba (pR l))))
/-- A text that begins with the line of a record with the number k. -/
def Good (k : Int) (s : List UInt8) : Prop := 10 ∈ s ∧ GoodL k (tw 10 s)
theorem goodL_of (k : Int) (c r : ByteArray) (h0 : 0 ≤ k) (h : recB c r = true) {l : List UInt8} (e : l = bs (sealB (headB k c r))) : GoodL k l ∧ ba (pC l) = c ∧ ba (pR l) = r := by
  have := parse_line k c r h0 h
  rw [← e] at this
  have hc : ba (pC l) = c := by rw [this.1, ba_bs]
  have hr : ba (pR l) = r := by rw [this.2, ba_bs]
  exact ⟨⟨by rw [hc, hr]; exact h, by rw [hc, hr]; exact e⟩, hc, hr⟩
end Go.Proofs.YtccbpfconceoeaaDoor.Pure
