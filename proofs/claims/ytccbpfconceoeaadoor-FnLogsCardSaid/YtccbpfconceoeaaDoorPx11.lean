-- Written by wip/mp.py of this session over the kit's printer; Lean checks it.
import Derived.Test.YtccbpfconceoeaaDoorPx0
namespace Go.Proofs.YtccbpfconceoeaaDoor.P
open Go.RowKit Go.Proofs.YtccbpfconceoeaaDoorW.PrintWords Go.Proofs.YtccbpfconceoeaaDoorW.PrintLast Go.Proofs.YtccbpfconceoeaaDoorW.PrintMore
attribute [local go_sem] max2_int min2_int max_two min_two max_three min_three max_four min_four   -- for this text's walks alone
set_option linter.unusedVariables false
set_option linter.unusedSimpArgs false

/-! ### strings_Cut: function 82 -/
-- by hand
def strings_Cut.f (a0 a1 : ByteArray) : Option (ByteArray × ByteArray × Bool) := if a1.size = 1 ∧ a0.size ≤ 9223372036854775806 then some (cut1 a0 (a1.data.toList.headD 0)) else none
set_option maxHeartbeats 2000000 in
theorem strings_Cut.lite (s : ByteArray) (c : UInt8) (w : World) (hs : s.size ≤ 9223372036854775806) :
    Calls Tryd.prog 89 #[.string s, .string ⟨#[c]⟩] w fun e w' => e = .returned (.tuple #[.string (cut1 s c).1, .string (cut1 s c).2.1, .bool (cut1 s c).2.2]) ∧ ∃ n, w' = w.drewN n := by
  have hge := Lib.indexByte_ge s.data.toList c
  by_cases h0 : 0 ≤ Lib.indexByte s.data.toList c
  · obtain ⟨i, hi⟩ := Int.eq_ofNat_of_zero_le h0
    have hlt : i < s.size := by
      have := (Lib.indexByte_some (l := s.data.toList) (c := c) (o := i) hi).1
      have h2 : i < s.data.toList.length := by
        rcases Nat.lt_or_ge i s.data.toList.length with h | h
        · exact h
        · rw [List.getElem?_eq_none h] at this; cases this
      simpa using h2
    have e1 : cut1 s c = (s.extract 0 i, s.extract (i + 1) s.size, true) := by unfold cut1; rw [if_pos h0, hi]; rfl
    rw [e1]
    clear e1 hge
    have H := Aside0.mk hi
    clear hi h0
    have c1 : (0 : Int) ≤ ↑i := by omega
    have c2 : (↑i : Int) ≤ ↑s.size := by omega
    have c3 : (0 : Int) ≤ ↑i + 1 := by omega
    have c4 : (↑i + 1 : Int) ≤ ↑s.size := by omega
    have c5 : decide ((0 : Int) ≤ ↑i) = true := decide_eq_true c1
    go_enter Tryd.func89, Tryd.ntmps89
    go_wp2_with (go_at_call 84; refine (Go.Proofs.Tryd.stringslite_Index_one _ _ _).mono ?_; rintro e w' ⟨rfl, rfl⟩; rw [H.out])
    go_quiet (fail)
    go_wp2
    go_ret3
    exact ⟨rfl, _, rfl⟩
  · have e1 : cut1 s c = (s, ⟨#[]⟩, false) := by unfold cut1; rw [if_neg h0]
    rw [e1]
    have hi : Lib.indexByte s.data.toList c = -1 := by omega
    have H := Aside0.mk hi
    clear e1 hge hi h0
    go_enter Tryd.func89, Tryd.ntmps89
    go_wp2_with (go_at_call 84; refine (Go.Proofs.Tryd.stringslite_Index_one _ _ _).mono ?_; rintro e w' ⟨rfl, rfl⟩; rw [H.out])
    go_ret3
    exact ⟨rfl, 0, rfl⟩
set_option maxHeartbeats 2000000 in
theorem strings_Cut.calls (a0 a1 : ByteArray) (r1 r2 : ByteArray) (r3 : Bool) (w : World) (h : strings_Cut.f a0 a1 = some (r1, r2, r3)) :
    Calls Tryd.prog 82 #[.string a0, .string a1] w fun e w' => e = .returned (.tuple #[.string r1, .string r2, .bool r3]) ∧ Drawn0 w w' := by
  unfold strings_Cut.f at h
  split at h
  · rename_i h1
    obtain ⟨c, rfl⟩ := one_byte a1 h1.1
    have e0 : cut1 a0 c = (r1, r2, r3) := Option.some.inj h
    have hl := strings_Cut.lite a0 c w h1.2
    rw [e0] at hl
    have HL := Aside0.mk hl
    clear hl h e0 h1
    go_enter Tryd.func82, Tryd.ntmps82
    go_wp2_with (go_at_call 89; refine HL.out.mono ?_; rintro e w' ⟨rfl, n, rfl⟩)
    go_ret3
    exact ⟨rfl, ⟨⟨_, rfl⟩⟩⟩
  · exact absurd h (by simp)

end Go.Proofs.YtccbpfconceoeaaDoor.P
