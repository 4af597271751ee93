-- Written by wip/mp.py of this session over the kit's printer; Lean checks it.
import Derived.Test.YtccbpfconceoeaaDoorPx0
namespace Go.Proofs.YtccbpfconceoeaaDoor.P
open Go.RowKit Go.Proofs.YtccbpfconceoeaaDoorW.PrintWords Go.Proofs.YtccbpfconceoeaaDoorW.PrintLast Go.Proofs.YtccbpfconceoeaaDoorW.PrintMore
attribute [local go_sem] max2_int min2_int max_two min_two max_three min_three max_four min_four   -- for this text's walks alone
set_option linter.unusedVariables false
set_option linter.unusedSimpArgs false

/-! ### spec_l1Num: function 69 -/
-- by hand
def spec_l1Num.f (a0 : Int) : Option ByteArray := if -9223372036854775808 ≤ a0 ∧ a0 ≤ 9223372036854775807 then some ⟨(Lib.itoa a0).toArray⟩ else none
theorem spec_l1Num.dig (n : Nat) (h : n < 10) (w : World) :
    Calls Tryd.prog 69 #[.int .i64 n] w fun e w' => e = .returned (.string ⟨(Lib.itoa n).toArray⟩) ∧ ∃ k, w' = w.drewN k := by
  have e1 : (⟨#[48, 49, 50, 51, 52, 53, 54, 55, 56, 57]⟩ : ByteArray).extract n (n + 1) = ⟨(Lib.itoa n).toArray⟩ := by
    have hc : n = 0 ∨ n = 1 ∨ n = 2 ∨ n = 3 ∨ n = 4 ∨ n = 5 ∨ n = 6 ∨ n = 7 ∨ n = 8 ∨ n = 9 := by omega
    rcases hc with rfl | rfl | rfl | rfl | rfl | rfl | rfl | rfl | rfl | rfl <;> decide +kernel
  rw [← e1]
  clear e1
  have h1 : ((n : Int) < 0) = False := by simp
  have h2 : decide ((n : Int) < 0) = false := by simp
  have h3 : decide ((n : Int) < 10) = true := by simp; omega
  have h4 : (0 : Int) ≤ n := by omega
  have h5 : (n : Int) ≤ (n : Int) + 1 := by omega
  have h6 : (n : Int) + 1 ≤ 10 := by omega
  go_enter Tryd.func69, Tryd.ntmps69
  go_wp2
  go_ret
  exact ⟨rfl, 0, rfl⟩
set_option maxRecDepth 100000 in
set_option maxHeartbeats 1000000 in
theorem spec_l1Num.pos (m : Nat) : ∀ (n : Nat) (w : World), n ≤ m → n ≤ 9223372036854775807 →
    Calls Tryd.prog 69 #[.int .i64 n] w fun e w' => e = .returned (.string ⟨(Lib.itoa n).toArray⟩) ∧ ∃ k, w' = w.drewN k := by
  induction m with
  | zero =>
    intro n w h _
    exact spec_l1Num.dig n (by omega) w
  | succ m ih =>
    intro n w h hb
    by_cases hn : n < 10
    · exact spec_l1Num.dig n hn w
    · have e1 : (⟨(Lib.itoa ((n / 10 : Nat) : Int)).toArray⟩ : ByteArray) ++ (⟨#[48, 49, 50, 51, 52, 53, 54, 55, 56, 57]⟩ : ByteArray).extract (n % 10) (n % 10 + 1) = ⟨(Lib.itoa n).toArray⟩ := by
        have hd : (⟨#[48, 49, 50, 51, 52, 53, 54, 55, 56, 57]⟩ : ByteArray).extract (n % 10) (n % 10 + 1) = ⟨#[UInt8.ofNat (48 + n % 10)]⟩ := by
          have hc : n % 10 = 0 ∨ n % 10 = 1 ∨ n % 10 = 2 ∨ n % 10 = 3 ∨ n % 10 = 4 ∨ n % 10 = 5 ∨ n % 10 = 6 ∨ n % 10 = 7 ∨ n % 10 = 8 ∨ n % 10 = 9 := by omega
          rcases hc with h | h | h | h | h | h | h | h | h | h <;> rw [h] <;> decide +kernel
        rw [hd]
        have e2 : Lib.itoa (n : Int) = Lib.itoa ((n / 10 : Nat) : Int) ++ [UInt8.ofNat (48 + n % 10)] := by
          unfold Lib.itoa
          rw [if_neg (by omega), if_neg (by omega), Int.toNat_natCast, Int.toNat_natCast]
          conv => lhs; rw [Lib.decDigits]
          rw [dif_neg hn]
        rw [e2]
        apply ByteArray.ext
        simp
      have hlen : (Lib.itoa ((n / 10 : Nat) : Int)).length ≤ 20 := by
        unfold Lib.itoa
        rw [if_neg (by omega), Int.toNat_natCast, Lib.decDigits_length]
        exact Lib.nDigits_le20 _ (by omega)
      rw [← e1]
      have hsz : (⟨(Lib.itoa ((n / 10 : Nat) : Int)).toArray⟩ : ByteArray).size ≤ 20 := by
        show (Lib.itoa ((n / 10 : Nat) : Int)).toArray.size ≤ 20
        rw [List.size_toArray]; exact hlen
      clear e1 hlen
      have hq : ∀ W, Calls Tryd.prog 69 #[.int .i64 ((n / 10 : Nat) : Int)] W fun e w' => e = .returned (.string (⟨(Lib.itoa ((n / 10 : Nat) : Int)).toArray⟩ : ByteArray)) ∧ ∃ k, w' = W.drewN k := fun W => ih (n / 10) W (by omega) (by omega)
      clear ih
      generalize (⟨(Lib.itoa ((n / 10 : Nat) : Int)).toArray⟩ : ByteArray) = q at hsz hq ⊢
      rw [show ((n / 10 : Nat) : Int) = IntKind.i64.wrap ((n : Int) / 10) from by rw [IntWalk.i64_in _ (by omega)]; omega] at hq
      have HQ := Aside0.mk hq
      clear hq
      have ht : (n : Int).tmod 10 = (n : Int) % 10 := Int.tmod_eq_emod_of_nonneg (by omega)
      have hw1 : IntKind.i64.wrap ((n : Int) % 10 + 1) = (n : Int) % 10 + 1 := IntWalk.i64_in _ (by omega)
      have hw2 : ((n : Int) % 10).toNat = n % 10 := by omega
      have hw3 : ((n : Int) % 10 + 1).toNat = n % 10 + 1 := by omega
      have h1 : ((n : Int) < 0) = False := by simp
      have h2 : decide ((n : Int) < 0) = false := by simp
      have h3 : decide ((n : Int) < 10) = false := by simp; omega
      have h5 : (10 : Int) ≤ n := by omega
      have h6 : (n : Int) ≤ 9223372036854775807 := by omega
      have hr0 : ((0 : Int) ≤ (n : Int) % 10) = True := eq_true (by omega)
      have hr1 : ((n : Int) % 10 ≤ (n : Int) % 10 + 1) = True := eq_true (by omega)
      have hr2 : ((n : Int) % 10 + 1 ≤ 10) = True := eq_true (by omega)
      have hq1 : (9223372036854775807 < q.size + 1) = False := eq_false (by omega)
      have hq2 : (9223372036854775807 < q.size + (min (n % 10 + 1) 10 - n % 10)) = False := eq_false (by omega)
      go_enter Tryd.func69, Tryd.ntmps69
      go_wp2
      refine wp_region_quiet_lit (by kernel_rfl) (by kernel_rfl) ?_
      quiet_step (fail)
      quiet_step (fail)
      refine wpQuiet_step (fun K hK => ?_)
      go_simp
      refine ⟨.string q, fun _ => ?_, hK _ ?_⟩
      · exact Calls.quiet_of (HQ.out _)
      clear hK K
      repeat (quiet_step (fail))
      refine wpQuiet_nil ?_
      intro _ hw'
      obtain ⟨nq, hw''⟩ := hw'
      subst hw''
      go_wp2
      go_ret
      exact ⟨rfl, _, rfl⟩
set_option maxHeartbeats 1000000 in
theorem spec_l1Num.neg (m : Nat) : ∀ (n : Nat) (w : World), n ≤ m → 1 ≤ n → n ≤ 9223372036854775808 →
    Calls Tryd.prog 69 #[.int .i64 (-(n : Int))] w fun e w' => e = .returned (.string ⟨(Lib.itoa (-(n : Int))).toArray⟩) ∧ ∃ k, w' = w.drewN k := by
  induction m with
  | zero =>
    intro n w h h1 _
    omega
  | succ m ih =>
    intro n w h h1 hb
    have hlen : ∀ u : Nat, u < 18446744073709551616 → (⟨(Lib.decDigits u).toArray⟩ : ByteArray).size ≤ 20 := fun u hu => by
      show (Lib.decDigits u).toArray.size ≤ 20
      rw [List.size_toArray, Lib.decDigits_length]; exact Lib.nDigits_le20 _ hu
    have ei : Lib.itoa (-(n : Int)) = 45 :: Lib.decDigits n := by
      unfold Lib.itoa; rw [if_pos (by omega)]; congr 1; congr 1; omega
    by_cases hn : n < 10
    · have hq := fun W => spec_l1Num.pos n n W (Nat.le_refl _) (by omega)
      have ep : Lib.itoa (n : Int) = Lib.decDigits n := by unfold Lib.itoa; rw [if_neg (by omega), Int.toNat_natCast]
      rw [ep] at hq
      have hs := hlen n (by omega)
      have e1 : (⟨#[45]⟩ : ByteArray) ++ (⟨(Lib.decDigits n).toArray⟩ : ByteArray) = ⟨(Lib.itoa (-(n : Int))).toArray⟩ := by
        rw [ei]; apply ByteArray.ext; simp
      rw [← e1]
      clear e1 ei ep ih hlen
      generalize (⟨(Lib.decDigits n).toArray⟩ : ByteArray) = q at hs hq ⊢
      rw [show (n : Int) = -(-(n : Int)) from by omega] at hq
      obtain ⟨z, hz⟩ : ∃ z : Int, z = -(n : Int) := ⟨_, rfl⟩
      rw [← hz] at hq ⊢
      have g1 : z < 0 := by omega
      have g2 : -10 < z := by omega
      have HQ := Aside0.mk hq
      clear hq hz h1 hb hn h
      have h1 : decide (z < 0) = true := decide_eq_true g1
      have h2 : decide (-10 < z) = true := decide_eq_true g2
      have hs2 : (9223372036854775807 < 1 + q.size) = False := eq_false (by omega)
      go_enter Tryd.func69, Tryd.ntmps69
      go_wp2_with (go_at_call 69; refine (HQ.out _).mono ?_; rintro e w' ⟨rfl, k, rfl⟩)
      go_ret
      exact ⟨rfl, _, rfl⟩
    · have hq := fun W => ih (n / 10) W (by omega) (by omega) (by omega)
      have hp := fun W => spec_l1Num.pos (n % 10) (n % 10) W (Nat.le_refl _) (by omega)
      have ep : Lib.itoa ((n % 10 : Nat) : Int) = [UInt8.ofNat (48 + n % 10)] := by
        unfold Lib.itoa; rw [if_neg (by omega), Int.toNat_natCast, Lib.decDigits, dif_pos (by omega)]
      have eq_ : Lib.itoa (-((n / 10 : Nat) : Int)) = 45 :: Lib.decDigits (n / 10) := by
        unfold Lib.itoa; rw [if_pos (by omega)]; congr 1; congr 1; omega
      rw [ep] at hp
      have e1 : (⟨(Lib.itoa (-((n / 10 : Nat) : Int))).toArray⟩ : ByteArray) ++ (⟨#[UInt8.ofNat (48 + n % 10)]⟩ : ByteArray) = ⟨(Lib.itoa (-(n : Int))).toArray⟩ := by
        rw [ei, eq_]
        conv => rhs; rw [Lib.decDigits]
        rw [dif_neg hn]
        apply ByteArray.ext; simp
      have hs : (⟨(Lib.itoa (-((n / 10 : Nat) : Int))).toArray⟩ : ByteArray).size ≤ 21 := by
        have := hlen (n / 10) (by omega)
        rw [eq_]
        show (45 :: Lib.decDigits (n / 10)).toArray.size ≤ 21
        have h2 : (Lib.decDigits (n / 10)).toArray.size ≤ 20 := this
        simp at h2 ⊢; omega
      rw [← e1]
      clear e1 ei ep eq_ ih hlen
      generalize (⟨(Lib.itoa (-((n / 10 : Nat) : Int))).toArray⟩ : ByteArray) = q at hs hq ⊢
      have hp2 : ∀ W, Calls Tryd.prog 69 #[.int .i64 ((n % 10 : Nat) : Int)] W fun e w' => e = .returned (.string (⟨#[UInt8.ofNat (48 + n % 10)]⟩ : ByteArray)) ∧ ∃ k, w' = W.drewN k := hp
      have hs1 : (⟨#[UInt8.ofNat (48 + n % 10)]⟩ : ByteArray).size = 1 := rfl
      clear hp
      generalize (⟨#[UInt8.ofNat (48 + n % 10)]⟩ : ByteArray) = p at hp2 hs1 ⊢
      have ez : ∀ z : Int, z = -(n : Int) → -((n / 10 : Nat) : Int) = z.tdiv 10 ∧ ((n % 10 : Nat) : Int) = -(z.tmod 10) := by
        intro z hz
        subst hz
        rw [Int.neg_tdiv, Int.neg_tmod]
        constructor
        · rw [Int.tdiv_eq_ediv_of_nonneg (by omega)]; omega
        · rw [Int.tmod_eq_emod_of_nonneg (by omega)]; omega
      obtain ⟨z, hz⟩ : ∃ z : Int, z = -(n : Int) := ⟨_, rfl⟩
      obtain ⟨z1, z2⟩ := ez z hz
      rw [z1] at hq
      rw [z2] at hp2
      rw [← hz]
      have g1 : z < 0 := by omega
      have g2 : ¬ (-10 < z) := by omega
      have g3 : -9223372036854775808 ≤ z := by omega
      have g4 : -9 ≤ z.tmod 10 := by omega
      have g5 : z.tmod 10 ≤ 0 := by omega
      have HQ := Aside0.mk hq
      have HP := Aside0.mk hp2
      have hs2 : (9223372036854775807 < q.size + p.size) = False := eq_false (by omega)
      clear hq hp2 hz h1 hb hn h ez z1 z2 hs1
      have h1 : decide (z < 0) = true := decide_eq_true g1
      have h2 : decide (-10 < z) = false := decide_eq_false g2
      go_enter Tryd.func69, Tryd.ntmps69
      go_wp2_with fail
      refine (HQ.out _).mono ?_
      rintro e w' ⟨rfl, k, rfl⟩
      go_wp2_with fail
      refine (HP.out _).mono ?_
      rintro e w' ⟨rfl, k2, rfl⟩
      go_wp2
      go_ret
      exact ⟨rfl, _, rfl⟩
theorem spec_l1Num.calls (a0 : Int) (r : ByteArray) (w : World) (h : spec_l1Num.f a0 = some r) :
    Calls Tryd.prog 69 #[.int .i64 a0] w fun e w' => e = .returned (.string r) ∧ Drawn0 w w' := by
  unfold spec_l1Num.f at h
  split at h
  · rename_i hb
    obtain rfl := Option.some.inj h
    rcases Int.lt_or_le a0 0 with h0 | h0
    · obtain ⟨n, rfl⟩ : ∃ n : Nat, a0 = -(n : Int) := ⟨a0.natAbs, by omega⟩
      exact (spec_l1Num.neg n n w (Nat.le_refl _) (by omega) (by omega)).mono fun e w' ⟨h1, h2⟩ => ⟨h1, ⟨h2⟩⟩
    · obtain ⟨n, rfl⟩ := Int.eq_ofNat_of_zero_le h0
      exact (spec_l1Num.pos n n w (Nat.le_refl _) (by omega)).mono fun e w' ⟨h1, h2⟩ => ⟨h1, ⟨h2⟩⟩
  · exact absurd h (by simp)

end Go.Proofs.YtccbpfconceoeaaDoor.P
