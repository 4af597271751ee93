/- Plain facts: bytes, checksums, numerals and the lines of a log, and what the printed functions over them answer. No conditions but those that each theorem names. -/
import Derived.Test.YtccbpfconceoeaaDoorPx0
import Derived.Test.YtccbpfconceoeaaDoorPx3
import Derived.Test.YtccbpfconceoeaaDoorPx4
import Derived.Test.YtccbpfconceoeaaDoorPx5
import Derived.Test.YtccbpfconceoeaaDoorPx6
import Derived.Test.YtccbpfconceoeaaDoorPx7
import Derived.Test.YtccbpfconceoeaaDoorPx8
import Derived.Test.YtccbpfconceoeaaDoorPx9
import Derived.Test.YtccbpfconceoeaaDoorPx10
namespace Go.Proofs.YtccbpfconceoeaaDoor.Pure
open Go.RowKit Go.Proofs.YtccbpfconceoeaaDoor.P Go.Proofs.YtccbpfconceoeaaDoorW.PrintWords Go.Proofs.YtccbpfconceoeaaDoorW.PrintLast Go.Proofs.YtccbpfconceoeaaDoorW.PrintMore

theorem w64 {z : Int} (h : -9223372036854775808 ≤ z ∧ z ≤ 9223372036854775807) : wrap64 z = z := by unfold wrap64; omega
/-- The bytes of a text. -/
abbrev bs (s : ByteArray) : List UInt8 := s.data.toList
theorem bs_len (s : ByteArray) : (bs s).length = s.size := by simp [bs]
theorem bt_drop (s : ByteArray) (j : Nat) (c : UInt8) (l : List UInt8) (h : (bs s).drop j = c :: l) : bt s (j : Int) = (c.toNat : Int) ∧ (bs s).drop (j + 1) = l ∧ j < s.size := by
  have hj : j < (bs s).length := by
    rcases Nat.lt_or_ge j (bs s).length with h1 | h1
    · exact h1
    · rw [List.drop_eq_nil_of_le h1] at h; cases h
  have hs : j < s.size := by rw [← bs_len]; exact hj
  have e := List.drop_eq_getElem_cons hj
  rw [h] at e
  injection e with e1 e2
  refine ⟨?_, e2.symm, hs⟩
  unfold bt
  rw [dif_pos (by simpa using hs), e1]
  simp [bs]
  rfl
theorem drop_cases (s : ByteArray) (j : Nat) (h : j ≤ s.size) : (j = s.size ∧ (bs s).drop j = []) ∨ ∃ c l, (bs s).drop j = c :: l ∧ j < s.size := by
  rcases Nat.lt_or_ge j s.size with h1 | h1
  · right
    have hj : j < (bs s).length := by rw [bs_len]; exact h1
    exact ⟨_, _, List.drop_eq_getElem_cons hj, h1⟩
  · left
    exact ⟨by omega, List.drop_eq_nil_of_le (by rw [bs_len]; exact h1)⟩
theorem in_some (a b c : Int) : spec_l1In.f a b c = some (decide (b ≤ a) && decide (a ≤ c)) := by
  unfold spec_l1In.f
  split <;> rename_i h
  · rw [decide_eq_true (show b ≤ a from h)]; rfl
  · rw [decide_eq_false (show ¬ b ≤ a from h)]; rfl
theorem in_some' (a b c : Int) : impl_in.f a b c = some (decide (b ≤ a) && decide (a ≤ c)) := by
  unfold impl_in.f
  split <;> rename_i h
  · rw [decide_eq_true (show b ≤ a from h)]; rfl
  · rw [decide_eq_false (show ¬ b ≤ a from h)]; rfl

/-! ### Bytes that a record may have -/
/-- A byte of 32..126, no '#'. -/
def okB (c : UInt8) : Bool := decide (32 ≤ c.toNat) && decide (c.toNat ≤ 126) && !decide (c.toNat = 35)
theorem l12Bytes_ev (s : ByteArray) (most : Int) (hs : s.size ≤ 9223372036854775806) : ∀ (l : List UInt8) (j : Nat), j ≤ s.size → (bs s).drop j = l →
    Ev (fun k => spec_l12Bytes.l0 k s most (j : Int)) (l.all okB && decide ((s.size : Int) ≤ most)) := by
  intro l
  induction l with
  | nil =>
    intro j hj hl
    rcases drop_cases s j hj with ⟨h1, _⟩ | ⟨c, l, h1, _⟩
    · refine Ev.step (f := fun _ => some (decide ((s.size : Int) ≤ most))) (fun k => ?_) (Ev.now _)
      simp only [spec_l12Bytes.l0]
      rw [if_neg (by omega)]
    · rw [hl] at h1; cases h1
  | cons c l ih =>
    intro j hj hl
    obtain ⟨hb, hd, hlt⟩ := bt_drop s j c l hl
    have hc := c.toNat_lt
    have ih' := ih (j + 1) (by omega) hd
    by_cases h1 : okB c = true
    · refine Ev.step (f := fun k => spec_l12Bytes.l0 k s most ((j + 1 : Nat) : Int)) (fun k => ?_) ?_
      · simp only [spec_l12Bytes.l0]
        rw [if_pos (by omega), if_pos (by omega), hb, in_some, w64 (by omega), w64 (by omega)]
        simp only [okB, Bool.and_eq_true, decide_eq_true_eq, Bool.not_eq_true', decide_eq_false_iff_not] at h1
        rw [decide_eq_true (by omega), decide_eq_true (by omega)]
        simp only [Bool.and_self, Option.bind_some, if_true]
        rw [if_neg (by omega)]
        rfl
      · rw [List.all_cons, h1]; exact ih'
    · refine Ev.step (f := fun _ => some false) (fun k => ?_) ?_
      · simp only [spec_l12Bytes.l0]
        rw [if_pos (by omega), if_pos (by omega), hb, in_some, w64 (by omega)]
        simp only [okB, Bool.and_eq_true, decide_eq_true_eq, Bool.not_eq_true', decide_eq_false_iff_not] at h1
        by_cases h2 : 32 ≤ c.toNat ∧ c.toNat ≤ 126
        · rw [decide_eq_true (by omega), decide_eq_true (by omega)]
          simp only [Bool.and_self, Option.bind_some, if_true]
          rw [if_pos (by omega)]
        · have : (decide ((32 : Int) ≤ (c.toNat : Int)) && decide ((c.toNat : Int) ≤ 126)) = false := by
            simp only [Bool.and_eq_false_iff, decide_eq_false_iff_not]; omega
          rw [this]
          simp only [Option.bind_some]
          rw [if_neg (by simp)]
      · rw [List.all_cons, Bool.eq_false_iff.mpr h1]; exact Ev.now _

theorem l1Stands_ev (s : ByteArray) (x : UInt8) (hs : s.size ≤ 9223372036854775806) : ∀ (l : List UInt8) (j : Nat), j ≤ s.size → (bs s).drop j = l →
    Ev (fun k => spec_l1Stands.l0 k s (x.toNat : Int) (j : Int)) (l.any (fun c => decide (c = x))) := by
  intro l
  induction l with
  | nil =>
    intro j hj hl
    rcases drop_cases s j hj with ⟨h1, _⟩ | ⟨c, l, h1, _⟩
    · refine Ev.step (f := fun _ => some false) (fun k => ?_) (Ev.now _)
      simp only [spec_l1Stands.l0]
      rw [if_neg (by omega)]
    · rw [hl] at h1; cases h1
  | cons c l ih =>
    intro j hj hl
    obtain ⟨hb, hd, hlt⟩ := bt_drop s j c l hl
    have ih' := ih (j + 1) (by omega) hd
    by_cases h1 : c = x
    · refine Ev.step (f := fun _ => some true) (fun k => ?_) ?_
      · simp only [spec_l1Stands.l0]
        rw [if_pos (by omega), if_pos (by omega), hb, if_pos (by rw [h1])]
      · rw [List.any_cons, decide_eq_true h1]; exact Ev.now _
    · refine Ev.step (f := fun k => spec_l1Stands.l0 k s (x.toNat : Int) ((j + 1 : Nat) : Int)) (fun k => ?_) ?_
      · simp only [spec_l1Stands.l0]
        rw [if_pos (by omega), if_pos (by omega), hb, if_neg (fun h => h1 (UInt8.toNat_inj.1 (by omega))), w64 (by omega)]
        rfl
      · rw [List.any_cons, decide_eq_false h1]; exact ih'
/-- The bytes that a text may have, beside others. -/
def plB (but : List UInt8) (c : UInt8) : Bool := decide (32 ≤ c.toNat) && decide (c.toNat ≤ 126) && decide (Lib.indexByte but c < 0)
theorem isPlain_ev (s but : ByteArray) (hs : s.size ≤ 9223372036854775806) : ∀ (l : List UInt8) (j : Nat), j ≤ s.size → (bs s).drop j = l →
    Ev (fun k => impl_isPlain.l0 k s but (s.size : Int) (j : Int)) (l.all (plB (bs but))) := by
  intro l
  induction l with
  | nil =>
    intro j hj hl
    rcases drop_cases s j hj with ⟨h1, _⟩ | ⟨c, l, h1, _⟩
    · refine Ev.step (f := fun _ => some true) (fun k => ?_) (Ev.now _)
      simp only [impl_isPlain.l0]
      rw [if_neg (by omega)]
    · rw [hl] at h1; cases h1
  | cons c l ih =>
    intro j hj hl
    obtain ⟨hb, hd, hlt⟩ := bt_drop s j c l hl
    have hc := c.toNat_lt
    have ih' := ih (j + 1) (by omega) hd
    have hu : ((c.toNat : Int)).toNat.toUInt8 = c := by rw [Int.toNat_natCast]; exact UInt8.ofNat_toNat
    by_cases h1 : plB (bs but) c = true
    · refine Ev.step (f := fun k => impl_isPlain.l0 k s but (s.size : Int) ((j + 1 : Nat) : Int)) (fun k => ?_) ?_
      · simp only [plB, Bool.and_eq_true, decide_eq_true_eq] at h1
        have h9 : Lib.indexByte but.data.toList c < 0 := h1.2
        simp only [impl_isPlain.l0]
        rw [if_pos (by omega), if_pos (by omega), if_pos (by omega), hb, if_neg (by omega), if_neg (by omega)]
        simp only [strings_IndexByte.f, Option.bind_some]
        rw [hu, if_neg (by omega), w64 (by omega)]
        rfl
      · rw [List.all_cons, h1]; exact ih'
    · refine Ev.step (f := fun _ => some false) (fun k => ?_) ?_
      · simp only [plB, Bool.and_eq_true, decide_eq_true_eq] at h1
        simp only [impl_isPlain.l0]
        rw [if_pos (by omega), if_pos (by omega), if_pos (by omega), hb]
        by_cases h2 : (c.toNat : Int) < 32
        · rw [if_pos h2]
        · rw [if_neg h2]
          by_cases h3 : (c.toNat : Int) > 126
          · rw [if_pos h3]
          · rw [if_neg h3]
            have h9 : ¬ Lib.indexByte but.data.toList c < 0 := fun h9 => h1 ⟨⟨by omega, by omega⟩, h9⟩
            simp only [strings_IndexByte.f, Option.bind_some]
            rw [hu, if_pos (by omega)]
      · rw [List.all_cons, Bool.eq_false_iff.mpr h1]; exact Ev.now _
theorem plB_35 (c : UInt8) : plB [35] c = okB c := by
  unfold plB okB
  congr 1
  by_cases h : c.toNat = 35
  · have : c = 35 := UInt8.toNat_inj.1 h
    subst this; rfl
  · have h2 : ((35 : UInt8) == c) = false := by
      rw [beq_eq_false_iff_ne]; intro e; apply h; rw [← e]; rfl
    rw [decide_eq_false h]
    simp [Lib.indexByte, h2]
theorem plB_3564 (c : UInt8) : plB [35, 64] c = (okB c && !decide (c = 64)) := by
  rw [← plB_35]
  unfold plB
  rw [Bool.and_assoc (_ && _)]
  congr 1
  by_cases h : c = 64
  · subst h; rfl
  · have h2 : ((64 : UInt8) == c) = false := by
      rw [beq_eq_false_iff_ne]; intro e; exact h e.symm
    rw [decide_eq_false h]
    by_cases h3 : (35 : UInt8) == c <;> simp [Lib.indexByte, h2, h3]

/-! ### A record -/
/-- Is a record one that may be? -/
def recB (c r : ByteArray) : Bool := (decide (1 ≤ c.size ∧ c.size ≤ 160) && ((bs c).all okB && !(bs c).any (fun b => decide (b = 64)))) && (decide (r.size ≤ 250) && (bs r).all okB)
theorem toList_bs (s : ByteArray) : s.toList = bs s := Lib.toList_data s
theorem all_and {α : Type} (p q : α → Bool) (l : List α) : l.all (fun x => p x && !q x) = (l.all p && !l.any q) := by
  induction l with
  | nil => rfl
  | cons a l ih => simp only [List.all_cons, List.any_cons, ih]; cases p a <;> cases q a <;> simp
theorem l12Record_ev (c r : ByteArray) (hc : c.size ≤ 9223372036854775806) (hr : r.size ≤ 9223372036854775806) : Ev (fun k => spec_l12Record.f k c r) (recB c r) := by
  unfold recB
  by_cases h0 : c.size = 0
  · refine Ev.congr (f := fun _ => some false) (fun k => ?_) ?_
    · unfold spec_l12Record.f
      rw [toList_bs, if_pos (List.eq_nil_of_length_eq_zero (by rw [bs_len]; exact h0))]
    · rw [decide_eq_false (by omega)]; simp only [Bool.false_and]; exact Ev.now _
  · have hn : ¬ (c.toList = ([] : List UInt8)) := by
      rw [toList_bs]; intro h; apply h0; rw [← bs_len, h]; rfl
    refine Ev.congr (f := fun k => (spec_l12Bytes.f k c 160).bind fun t104 => (if t104 = true then ((spec_l1Stands.f k c 64).bind fun t105 => (if t105 = true then (some false) else ((spec_l12Bytes.f k r 250).bind fun t106 => (some t106)))) else (some false))) (fun k => ?_) ?_
    · unfold spec_l12Record.f; rw [if_neg hn]
    · refine Ev.bind (l12Bytes_ev c 160 hc (bs c) 0 (by omega) rfl) ?_
      by_cases h1 : ((bs c).all okB && decide ((c.size : Int) ≤ 160)) = true
      · rw [h1]
        simp only [if_true]
        rw [Bool.and_eq_true, decide_eq_true_eq] at h1
        rw [decide_eq_true (by omega), h1.1]
        simp only [Bool.true_and]
        refine Ev.bind (l1Stands_ev c 64 hc (bs c) 0 (by omega) rfl) ?_
        by_cases h2 : (bs c).any (fun c => decide (c = 64)) = true
        · rw [h2]; exact Ev.now _
        · rw [Bool.eq_false_iff.mpr h2]
          simp only [Bool.not_false, Bool.true_and]
          refine Ev.bind (l12Bytes_ev r 250 hr (bs r) 0 (by omega) rfl) ?_
          have e : ((bs r).all okB && decide ((r.size : Int) ≤ 250)) = (decide (r.size ≤ 250) && (bs r).all okB) := by
            rw [Bool.and_comm]; congr 1; exact decide_eq_decide.2 (by omega)
          rw [e]; exact Ev.now _
      · have e : ((decide (1 ≤ c.size ∧ c.size ≤ 160) && ((bs c).all okB && !(bs c).any (fun b => decide (b = 64)))) && (decide (r.size ≤ 250) && (bs r).all okB)) = false := by
          rw [Bool.and_eq_true, decide_eq_true_eq] at h1
          by_cases h2 : (bs c).all okB = true
          · have h3 : ¬ ((c.size : Int) ≤ 160) := fun h3 => h1 ⟨h2, h3⟩
            rw [decide_eq_false (by omega)]; simp
          · rw [Bool.eq_false_iff.mpr h2]; simp
        rw [Bool.eq_false_iff.mpr h1, e]
        exact Ev.now _
theorem IsValidRecord_ev (c r : ByteArray) (hc : c.size ≤ 9223372036854775806) (hr : r.size ≤ 9223372036854775806) : Ev (fun k => impl_IsValidRecord.f k c r) (recB c r) := by
  have e1 : (bs c).all (plB (bs ⟨#[35, 64]⟩)) = ((bs c).all okB && !(bs c).any (fun b => decide (b = 64))) := by
    rw [← all_and]; congr 1; funext x; exact plB_3564 x
  have e2 : (bs r).all (plB (bs ⟨#[35]⟩)) = (bs r).all okB := by congr 1; funext x; exact plB_35 x
  have hcmd : Ev (fun k => impl_isCommand.f k c) (decide (1 ≤ c.size ∧ c.size ≤ 160) && ((bs c).all okB && !(bs c).any (fun b => decide (b = 64)))) := by
    refine Ev.congr (f := fun k => if (decide ((1 : Int) ≤ (c.size : Int)) && decide ((c.size : Int) ≤ 160)) = true then ((impl_isPlain.f k c (⟨#[35, 64]⟩ : ByteArray)).bind fun t121 => (some t121)) else (some false)) (fun k => ?_) ?_
    · unfold impl_isCommand.f; rw [in_some']; rfl
    · by_cases h : 1 ≤ c.size ∧ c.size ≤ 160
      · rw [decide_eq_true h, ← e1]
        simp only [Bool.true_and]
        have : (decide ((1 : Int) ≤ (c.size : Int)) && decide ((c.size : Int) ≤ 160)) = true := by
          rw [decide_eq_true (by omega), decide_eq_true (by omega)]; rfl
        simp only [this, if_true]
        exact Ev.bind (isPlain_ev c ⟨#[35, 64]⟩ hc (bs c) 0 (by omega) rfl) (Ev.now _)
      · rw [decide_eq_false h]
        have : (decide ((1 : Int) ≤ (c.size : Int)) && decide ((c.size : Int) ≤ 160)) = false := by
          rw [Bool.and_eq_false_iff]
          rcases Nat.lt_or_ge c.size 1 with h1 | h1
          · exact .inl (decide_eq_false (by omega))
          · exact .inr (decide_eq_false (by omega))
        simp only [this]
        exact Ev.now _
  unfold impl_IsValidRecord.f recB
  refine Ev.bind hcmd ?_
  generalize (decide (1 ≤ c.size ∧ c.size ≤ 160) && ((bs c).all okB && !(bs c).any (fun b => decide (b = 64)))) = b
  cases b with
  | false => exact Ev.now _
  | true =>
    simp only [if_true, Bool.true_and]
    by_cases h : r.size ≤ 250
    · refine Ev.congr (f := fun k => (impl_isPlain.f k r (⟨#[35]⟩ : ByteArray)).bind fun t124 => (some t124)) (fun k => by rw [if_pos (by omega)]) ?_
      rw [decide_eq_true h, ← e2]
      exact Ev.bind (isPlain_ev r ⟨#[35]⟩ hr (bs r) 0 (by omega) rfl) (Ev.now _)
    · refine Ev.congr (f := fun _ => some false) (fun k => by rw [if_neg (by omega)]) ?_
      rw [decide_eq_false h]; exact Ev.now _

/-! ### Checksums and lines -/
/-- The checksum of bytes. -/
def sumL : List UInt8 → Int → Int
  | [], h => h
  | c :: l, h => sumL l ((41 * h + (c.toNat : Int) + 1) % 999979)
theorem sumL_range : ∀ (l : List UInt8) (h : Int), 0 ≤ h → h < 999979 → 0 ≤ sumL l h ∧ sumL l h < 999979
  | [], _, h0, h1 => ⟨h0, h1⟩
  | _ :: l, _, _, _ => sumL_range l _ (by omega) (by omega)
theorem l1Sum_ev (s : ByteArray) (hs : s.size ≤ 9223372036854775806) : ∀ (l : List UInt8) (j : Nat) (h : Int), 0 ≤ h → h < 999979 → j ≤ s.size → (bs s).drop j = l →
    Ev (fun k => spec_l1Sum.l0 k s h (j : Int)) (sumL l h) := by
  intro l
  induction l with
  | nil =>
    intro j h _ _ hj hl
    rcases drop_cases s j hj with ⟨h1, _⟩ | ⟨c, l, h1, _⟩
    · refine Ev.step (f := fun _ => some h) (fun k => ?_) (Ev.now _)
      simp only [spec_l1Sum.l0]
      rw [if_neg (by omega)]
    · rw [hl] at h1; cases h1
  | cons c l ih =>
    intro j h h0 h1 hj hl
    obtain ⟨hb, hd, hlt⟩ := bt_drop s j c l hl
    have hc := c.toNat_lt
    refine Ev.step (f := fun k => spec_l1Sum.l0 k s ((41 * h + (c.toNat : Int) + 1) % 999979) ((j + 1 : Nat) : Int)) (fun k => ?_) (ih (j + 1) _ (by omega) (by omega) (by omega) hd)
    simp only [spec_l1Sum.l0]
    rw [if_pos (by omega), if_pos (by omega), hb, w64 (z := 41 * h) (by omega), w64 (z := (c.toNat : Int)) (by omega), w64 (z := 41 * h + (c.toNat : Int)) (by omega), w64 (by omega), w64 (by omega), Int.tmod_eq_emod_of_nonneg (by omega)]
    rfl
theorem checksum_ev (s : ByteArray) (hs : s.size ≤ 9223372036854775806) : ∀ (l : List UInt8) (j : Nat) (h : Int), 0 ≤ h → h < 999979 → j ≤ s.size → (bs s).drop j = l →
    Ev (fun k => impl_checksum.l0 k s h (s.size : Int) (j : Int)) (sumL l h) := by
  intro l
  induction l with
  | nil =>
    intro j h _ _ hj hl
    rcases drop_cases s j hj with ⟨h1, _⟩ | ⟨c, l, h1, _⟩
    · refine Ev.step (f := fun _ => some h) (fun k => ?_) (Ev.now _)
      simp only [impl_checksum.l0]
      rw [if_neg (by omega)]
    · rw [hl] at h1; cases h1
  | cons c l ih =>
    intro j h h0 h1 hj hl
    obtain ⟨hb, hd, hlt⟩ := bt_drop s j c l hl
    have hc := c.toNat_lt
    refine Ev.step (f := fun k => impl_checksum.l0 k s ((41 * h + (c.toNat : Int) + 1) % 999979) (s.size : Int) ((j + 1 : Nat) : Int)) (fun k => ?_) (ih (j + 1) _ (by omega) (by omega) (by omega) hd)
    simp only [impl_checksum.l0]
    rw [if_pos (by omega), if_pos (by omega), if_pos (by omega), hb, w64 (z := 41 * h) (by omega), w64 (z := (c.toNat : Int)) (by omega), w64 (z := 41 * h + (c.toNat : Int)) (by omega), w64 (by omega), w64 (by omega), Int.tmod_eq_emod_of_nonneg (by omega)]
    rfl
/-- A number's text. -/
def num (n : Int) : ByteArray := ⟨(Lib.itoa n).toArray⟩
theorem num_size (n : Int) (h0 : -9223372036854775808 ≤ n) (h1 : n ≤ 9223372036854775807) : (num n).size ≤ 21 := by
  show (Lib.itoa n).toArray.size ≤ 21
  rw [List.size_toArray]
  unfold Lib.itoa
  split
  · rw [List.length_cons, Lib.decDigits_length]
    have := Lib.nDigits_le20 n.natAbs (by omega); omega
  · rw [Lib.decDigits_length]
    have := Lib.nDigits_le20 n.toNat (by omega); omega
theorem l1Num_eq (n : Int) (h0 : -9223372036854775808 ≤ n) (h1 : n ≤ 9223372036854775807) : spec_l1Num.f n = some (num n) := by
  unfold spec_l1Num.f num; rw [if_pos ⟨h0, h1⟩]
theorem Itoa_eq (n : Int) (h0 : -9223372036854775808 ≤ n) (h1 : n ≤ 9223372036854775807) : strconv_Itoa.f n = some (num n) := by
  unfold strconv_Itoa.f num; rw [if_pos ⟨h0, h1⟩]
/-- A text with its checksum. -/
def sealB (s : ByteArray) : ByteArray := (s ++ (⟨#[35]⟩ : ByteArray)) ++ num (sumL (bs s) 7)
/-- What a line bears ahead of its checksum. -/
def headB (k : Int) (c r : ByteArray) : ByteArray := (((num k ++ (⟨#[32]⟩ : ByteArray)) ++ c) ++ (⟨#[64]⟩ : ByteArray)) ++ r
def lineB (k : Int) (c r : ByteArray) : ByteArray := sealB (headB k c r) ++ (⟨#[10]⟩ : ByteArray)
theorem lit1 (c : UInt8) : (⟨#[c]⟩ : ByteArray).size = 1 := rfl
theorem l1Seal_ev (s : ByteArray) (hs : s.size ≤ 9223372036854775700) : Ev (fun k => spec_l1Seal.f k s) (sealB s) := by
  have hr := sumL_range (bs s) 7 (by omega) (by omega)
  have hn := num_size (sumL (bs s) 7) (by omega) (by omega)
  refine Ev.congr (f := fun k => (spec_l1Sum.f k s).bind fun t107 => ((spec_l1Num.f t107).bind fun t108 => (if s.size + 1 + t108.size ≤ 9223372036854775807 then (some ((s ++ (⟨#[35]⟩ : ByteArray)) ++ t108)) else (none)))) (fun k => ?_) (Ev.bind (l1Sum_ev s (by omega) (bs s) 0 7 (by omega) (by omega) (by omega) rfl) ?_)
  · unfold spec_l1Seal.f; rw [if_pos (by omega)]
  · simp only [l1Num_eq _ (show -9223372036854775808 ≤ sumL (bs s) 7 by omega) (by omega), Option.bind_some]
    rw [if_pos (by omega)]
    exact Ev.now _
theorem headB_size (k : Int) (c r : ByteArray) : (headB k c r).size = (num k).size + 1 + c.size + 1 + r.size := by
  unfold headB
  simp only [ByteArray.size_append, lit1]
theorem sealB_size (s : ByteArray) : (sealB s).size ≤ s.size + 22 := by
  have hr := sumL_range (bs s) 7 (by omega) (by omega)
  have hn := num_size (sumL (bs s) 7) (by omega) (by omega)
  unfold sealB
  simp only [ByteArray.size_append, lit1]
  omega
theorem l12Line_ev (k : Int) (c r : ByteArray) (h0 : -9223372036854775808 ≤ k) (h1 : k ≤ 9223372036854775807) (hc : c.size ≤ 1000000) (hr : r.size ≤ 1000000) : Ev (fun q => spec_l12Line.f q k c r) (lineB k c r) := by
  have hn := num_size k h0 h1
  have hh := headB_size k c r
  have hs := sealB_size (headB k c r)
  refine Ev.congr (f := fun q => (spec_l1Seal.f q (headB k c r)).bind fun t111 => (if t111.size + 1 ≤ 9223372036854775807 then (some (t111 ++ (⟨#[10]⟩ : ByteArray))) else (none))) (fun q => ?_) (Ev.bind (l1Seal_ev (headB k c r) (by omega)) ?_)
  · unfold spec_l12Line.f
    rw [l1Num_eq k h0 h1]
    simp only [Option.bind_some]
    rw [if_pos (by omega), if_pos (by omega), if_pos (by omega), if_pos (by omega)]
    rfl
  · rw [if_pos (by omega)]
    exact Ev.now _
/-- What both programs answer for a record's encoding. -/
def encB (k : Int) (c r : ByteArray) : ByteArray × Bool := if (decide (0 ≤ k ∧ k ≤ 59) && recB c r) = true then (lineB k c r, true) else (⟨#[]⟩, false)
theorem recB_size {c r : ByteArray} (h : recB c r = true) : 1 ≤ c.size ∧ c.size ≤ 160 ∧ r.size ≤ 250 := by
  unfold recB at h
  simp only [Bool.and_eq_true, decide_eq_true_eq] at h
  omega
theorem specEncode_ev (k : Int) (c r : ByteArray) (hc : c.size ≤ 9223372036854775806) (hr : r.size ≤ 9223372036854775806) : Ev (fun q => spec_EncodeRecord.f q k c r) (encB k c r) := by
  unfold encB
  by_cases hk : 0 ≤ k ∧ k ≤ 59
  · have e : spec_l1In.f k 0 59 = some true := by rw [in_some, decide_eq_true hk.1, decide_eq_true hk.2]; rfl
    refine Ev.congr (f := fun q => (spec_l12Record.f q c r).bind fun t114 => (if t114 = true then ((spec_l12Line.f q k c r).bind fun t115 => (some (t115, true))) else (some ((⟨#[]⟩ : ByteArray), false)))) (fun q => ?_) (Ev.bind (l12Record_ev c r hc hr) ?_)
    · unfold spec_EncodeRecord.f; rw [e]; simp only [Option.bind_some, if_true]
    · rw [decide_eq_true hk]
      simp only [Bool.true_and]
      by_cases hv : recB c r = true
      · have hz := recB_size hv
        rw [hv]
        simp only [if_true]
        exact Ev.bind (l12Line_ev k c r (by omega) (by omega) (by omega) (by omega)) (Ev.now _)
      · rw [Bool.eq_false_iff.mpr hv]; exact Ev.now _
  · have e : spec_l1In.f k 0 59 = some false := by
      rw [in_some, Bool.and_eq_false_iff.mpr]
      rcases Int.lt_or_le k 0 with h1 | h1
      · exact .inl (decide_eq_false (by omega))
      · exact .inr (decide_eq_false (by omega))
    refine Ev.congr (f := fun _ => some (⟨#[]⟩, false)) (fun q => ?_) ?_
    · unfold spec_EncodeRecord.f; rw [e]; rfl
    · rw [decide_eq_false hk]; exact Ev.now _
theorem decDigits_range (u : Nat) : ∀ b ∈ Lib.decDigits u, 48 ≤ b.toNat ∧ b.toNat ≤ 57 := by
  induction u using Nat.strongRecOn with
  | _ u ih =>
    intro b hb
    rw [Lib.decDigits] at hb
    have hd : ∀ d : Nat, d < 10 → (UInt8.ofNat (48 + d)).toNat = 48 + d := fun d hd => by
      rw [UInt8.toNat_ofNat']; omega
    split at hb
    · rename_i h
      rw [List.mem_singleton] at hb
      subst hb
      rw [hd u h]; omega
    · rename_i h
      rcases List.mem_append.1 hb with hb | hb
      · exact ih (u / 10) (by omega) b hb
      · rw [List.mem_singleton] at hb
        subst hb
        rw [hd (u % 10) (by omega)]; omega
theorem bs_append (a b : ByteArray) : bs (a ++ b) = bs a ++ bs b := by simp [bs]
theorem bs_num (n : Int) : bs (num n) = Lib.itoa n := by simp [bs, num]
theorem num_range (n : Int) (h : 0 ≤ n) : ∀ b ∈ bs (num n), 48 ≤ b.toNat ∧ b.toNat ≤ 57 := by
  intro b hb
  rw [bs_num] at hb
  unfold Lib.itoa at hb
  rw [if_neg (by omega)] at hb
  exact decDigits_range _ b hb
theorem okB_range {c : UInt8} (h : okB c = true) : 32 ≤ c.toNat ∧ c.toNat ≤ 126 ∧ c ≠ 35 := by
  simp only [okB, Bool.and_eq_true, decide_eq_true_eq, Bool.not_eq_true', decide_eq_false_iff_not] at h
  exact ⟨h.1.1, h.1.2, fun e => h.2 (by rw [e]; rfl)⟩
theorem recB_bytes {c r : ByteArray} (h : recB c r = true) : (∀ b ∈ bs c, okB b = true ∧ b ≠ 64) ∧ ∀ b ∈ bs r, okB b = true := by
  unfold recB at h
  simp only [Bool.and_eq_true, decide_eq_true_eq, Bool.not_eq_true', List.all_eq_true, List.any_eq_false, decide_eq_true_eq] at h
  exact ⟨fun b hb => ⟨h.1.2.1 b hb, h.1.2.2 b hb⟩, h.2.2⟩
/-- No byte of a line's head is a '#'. -/
theorem headB_35 (k : Int) (c r : ByteArray) (h0 : 0 ≤ k) (h : recB c r = true) : ∀ b ∈ bs (headB k c r), b ≠ 35 := by
  obtain ⟨hc, hr⟩ := recB_bytes h
  intro b hb
  unfold headB at hb
  simp only [bs_append, List.mem_append] at hb
  rcases hb with (((hb | hb) | hb) | hb) | hb
  · intro e
    have := num_range k h0 b hb
    rw [e] at this
    exact absurd this.1 (by decide)
  · have : b = 32 := by simpa [bs] using hb
    rw [this]; decide
  · exact (okB_range (hc b hb).1).2.2
  · have : b = 64 := by simpa [bs] using hb
    rw [this]; decide
  · exact (okB_range (hr b hb)).2.2
theorem indexByte_none' (l : List UInt8) (c : UInt8) (h : ∀ b ∈ l, b ≠ c) : Lib.indexByte l c = -1 := by
  have hge := Lib.indexByte_ge l c
  rcases Int.lt_or_le (Lib.indexByte l c) 0 with h1 | h1
  · omega
  · obtain ⟨o, ho⟩ := Int.eq_ofNat_of_zero_le h1
    have := (Lib.indexByte_some ho).1
    exact absurd rfl (h c (List.mem_of_getElem? this))
theorem AppendChecksum_ev (s : ByteArray) (hs : s.size ≤ 3970) (h35 : ∀ b ∈ bs s, b ≠ 35) : Ev (fun q => impl_AppendChecksum.f q s) (sealB s, true) := by
  have hr := sumL_range (bs s) 7 (by omega) (by omega)
  have hn := num_size (sumL (bs s) 7) (by omega) (by omega)
  have hi : strings_Contains.f s (⟨#[35]⟩ : ByteArray) = some false := by
    unfold strings_Contains.f
    rw [if_pos (lit1 35)]
    show some (decide (0 ≤ Lib.indexByte (bs s) 35)) = _
    rw [indexByte_none' _ _ h35]
    rfl
  refine Ev.congr (f := fun q => impl_AppendChecksum.j0 q s false) (fun q => ?_) ?_
  · unfold impl_AppendChecksum.f; rw [if_neg (by omega), hi]; rfl
  · refine Ev.step (f := fun q => (impl_checksum.f q s).bind fun t126 => ((strconv_Itoa.f t126).bind fun t127 => (if s.size + 1 + t127.size ≤ 9223372036854775807 then (if (s.size : Int) + 1 + (t127.size : Int) > 4000 then (some ((⟨#[]⟩ : ByteArray), false)) else (some ((s ++ (⟨#[35]⟩ : ByteArray)) ++ t127, true))) else (none)))) (fun q => ?_) (Ev.bind (checksum_ev s (by omega) (bs s) 0 7 (by omega) (by omega) (by omega) rfl) ?_)
    · simp only [impl_AppendChecksum.j0]
      rw [if_neg (by simp), if_pos (by omega)]
    · simp only [Itoa_eq _ (show -9223372036854775808 ≤ sumL (bs s) 7 by omega) (by omega), Option.bind_some]
      rw [if_pos (by omega), if_neg (by omega)]
      exact Ev.now _
theorem implEncode_ev (k : Int) (c r : ByteArray) (hc : c.size ≤ 9223372036854775806) (hr : r.size ≤ 9223372036854775806) : Ev (fun q => impl_EncodeRecord.f q k c r) (encB k c r) := by
  unfold encB
  by_cases hk : 0 ≤ k ∧ k ≤ 59
  · have e : impl_in.f k 0 59 = some true := by rw [in_some', decide_eq_true hk.1, decide_eq_true hk.2]; rfl
    refine Ev.congr (f := fun q => (impl_IsValidRecord.f q c r).bind fun t151 => (impl_EncodeRecord.j0 q k (!t151) c r)) (fun q => ?_) (Ev.bind (IsValidRecord_ev c r hc hr) ?_)
    · unfold impl_EncodeRecord.f; rw [e]; simp only [Option.bind_some, if_true]
    · rw [decide_eq_true hk]
      simp only [Bool.true_and]
      by_cases hv : recB c r = true
      · have hz := recB_size hv
        have hn := num_size k (by omega) (by omega)
        have hh := headB_size k c r
        have hs := sealB_size (headB k c r)
        rw [hv]
        simp only [if_true]
        refine Ev.step (f := fun q => (impl_AppendChecksum.f q (headB k c r)).bind fun bt153 => (if bt153.2 = true then (if bt153.1.size + 1 ≤ 9223372036854775807 then (some (bt153.1 ++ (⟨#[10]⟩ : ByteArray), true)) else (none)) else (some ((⟨#[]⟩ : ByteArray), false)))) (fun q => ?_) (Ev.bind (AppendChecksum_ev (headB k c r) (by omega) (headB_35 k c r hk.1 hv)) ?_)
        · simp only [impl_EncodeRecord.j0]
          rw [if_neg (by simp), Itoa_eq k (by omega) (by omega)]
          simp only [Option.bind_some]
          rw [if_pos (by omega), if_pos (by omega), if_pos (by omega), if_pos (by omega)]
          rfl
        · simp only [if_true]
          rw [if_pos (by omega)]
          exact Ev.now _
      · rw [Bool.eq_false_iff.mpr hv]
        exact Ev.step (f := fun _ => some (⟨#[]⟩, false)) (fun q => by simp only [impl_EncodeRecord.j0]; rw [if_pos (by rfl)]) (Ev.now _)
  · have e : impl_in.f k 0 59 = some false := by
      rw [in_some', Bool.and_eq_false_iff.mpr]
      rcases Int.lt_or_le k 0 with h1 | h1
      · exact .inl (decide_eq_false (by omega))
      · exact .inr (decide_eq_false (by omega))
    refine Ev.congr (f := fun q => impl_EncodeRecord.j0 q k true c r) (fun q => ?_) ?_
    · unfold impl_EncodeRecord.f; rw [e]; rfl
    · rw [decide_eq_false hk]
      exact Ev.step (f := fun _ => some (⟨#[]⟩, false)) (fun q => by simp [impl_EncodeRecord.j0]) (Ev.now _)
theorem szRec_some (c r : ByteArray) (z : Int) : ∃ y : Int, laws_szLogRecord.f c r z = some y := by
  unfold laws_szLogRecord.f
  split
  · exact ⟨_, rfl⟩
  · split <;> exact ⟨_, rfl⟩
end Go.Proofs.YtccbpfconceoeaaDoor.Pure
