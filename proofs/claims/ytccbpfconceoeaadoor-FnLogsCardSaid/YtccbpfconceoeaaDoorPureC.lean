/- What both decoders and both scans of a log tell. No conditions but those that each theorem names. -/
import Derived.Test.YtccbpfconceoeaaDoorPx0
import Derived.Test.YtccbpfconceoeaaDoorPx3
import Derived.Test.YtccbpfconceoeaaDoorPx5
import Derived.Test.YtccbpfconceoeaaDoorPx6
import Derived.Test.YtccbpfconceoeaaDoorPx10
import Derived.Test.YtccbpfconceoeaaDoorPx11
import Derived.Test.YtccbpfconceoeaaDoorPx12
import Derived.Test.YtccbpfconceoeaaDoorPureA
import Derived.Test.YtccbpfconceoeaaDoorPureB
namespace Go.Proofs.YtccbpfconceoeaaDoor.Pure
open Go.RowKit Go.Proofs.YtccbpfconceoeaaDoor.P Go.Proofs.YtccbpfconceoeaaDoorW.PrintWords Go.Proofs.YtccbpfconceoeaaDoorW.PrintLast Go.Proofs.YtccbpfconceoeaaDoorW.PrintMore

theorem decode_ev (s : ByteArray) (k : Int) (hs : s.size ≤ 1000000) (h0 : 0 ≤ k) (h1 : k ≤ 59) :
    (¬ Good k (bs s) ∧ ∃ c r n, Ev (fun q => impl_decode.f q s k) (c, r, n, false)) ∨
    (Good k (bs s) ∧ Ev (fun q => impl_decode.f q s k) (ba (pC (tw 10 (bs s))), ba (pR (tw 10 (bs s))), ((tw 10 (bs s)).length : Int) + 1, true)) := by
  have hl := bs_len s
  by_cases hm : 10 ∈ bs s
  · have hi : Lib.indexByte s.data.toList 10 = ((tw 10 (bs s)).length : Int) := idx_yes 10 (bs s) hm
    have hT := tw_mem 10 (bs s) hm
    have hlen := congrArg List.length hT
    simp only [List.length_append, List.length_cons] at hlen
    obtain ⟨L, hL⟩ : ∃ L, tw 10 (bs s) = L := ⟨_, rfl⟩
    obtain ⟨D, hD⟩ : ∃ D, dw 10 (bs s) = D := ⟨_, rfl⟩
    rw [hL, hD] at hlen hT
    rw [hL] at hi
    have eL : s.extract 0 L.length = ba L := bs_inj (by rw [bs_extract, bs_ba, hT]; simp)
    have eL1 : s.extract 0 (L.length + 1) = ba (L ++ [10]) := bs_inj (by rw [bs_extract, bs_ba, hT]; rw [List.drop_zero, List.take_append, List.take_of_length_le (by omega)]; simp)
    have eZ : (ba L).size ≤ 1000000 := by rw [ba_size]; omega
    have c1 := cut1_bs (ba L) 35
    have c2 := cut1_bs (cut1 (ba L) 35).1 32
    have c3 := cut1_bs (cut1 (cut1 (ba L) 35).1 32).2.1 64
    rw [bs_ba] at c1
    have z1 : (cut1 (ba L) 35).1.size ≤ 1000000 := by rw [← bs_len, c1.1]; have := tw_len 35 L; omega
    have z2 : (cut1 (cut1 (ba L) 35).1 32).2.1.size ≤ 1000000 := by
      rw [← bs_len, c2.2]
      have : ∀ (x : UInt8) (l : List UInt8), (dw x l).length ≤ l.length := by
        intro x l
        induction l with
        | nil => exact Nat.le_refl _
        | cons a l ih => unfold dw; split <;> simp; omega
      have := this 32 (bs (cut1 (ba L) 35).1)
      rw [bs_len] at this; omega
    have eC : (cut1 (cut1 (cut1 (ba L) 35).1 32).2.1 64).1 = ba (pC L) := bs_inj (by rw [c3.1, c2.2, c1.1, bs_ba]; rfl)
    have eR : (cut1 (cut1 (cut1 (ba L) 35).1 32).2.1 64).2.1 = ba (pR L) := bs_inj (by rw [c3.2, c2.2, c1.1, bs_ba]; rfl)
    have zz : ∀ (x : UInt8) (l : List UInt8), (dw x l).length ≤ l.length := by
      intro x l
      induction l with
      | nil => exact Nat.le_refl _
      | cons a l ih => unfold dw; split <;> simp; omega
    have zC : (ba (pC L)).size ≤ 1000000 := by rw [← eC, ← bs_len, c3.1]; have := tw_len 64 (bs (cut1 (cut1 (ba L) 35).1 32).2.1); rw [bs_len] at this; omega
    have zR : (ba (pR L)).size ≤ 1000000 := by rw [← eR, ← bs_len, c3.2]; have := zz 64 (bs (cut1 (cut1 (ba L) 35).1 32).2.1); rw [bs_len] at this; omega
    have key : ∀ v, Ev (fun q => (impl_EncodeRecord.f q k (ba (pC L)) (ba (pR L))).bind fun bt198 => (if bt198.2 = true then (some (ba (pC L), ba (pR L), (L.length : Int) + 1, (bt198.1.toList == (ba (L ++ [10])).toList))) else (some (ba (pC L), ba (pR L), (L.length : Int) + 1, false)))) v → Ev (fun q => impl_decode.f q s k) v := by
      intro v hv
      refine Ev.congr (fun q => ?_) hv
      unfold impl_decode.f
      simp only [strings_IndexByte.f, Option.bind_some]
      have e10 : (10 : Int).toNat.toUInt8 = 10 := rfl
      rw [e10, hi, if_neg (by omega), if_pos (by omega), if_pos (by omega)]
      simp only [Int.toNat_natCast, strings_Cut.f]
      rw [eL, if_pos ⟨rfl, by omega⟩]
      simp only [Option.bind_some]
      have e35 : (⟨#[35]⟩ : ByteArray).data.toList.headD 0 = 35 := rfl
      have e32 : (⟨#[32]⟩ : ByteArray).data.toList.headD 0 = 32 := rfl
      have e64 : (⟨#[64]⟩ : ByteArray).data.toList.headD 0 = 64 := rfl
      rw [e35, if_pos ⟨rfl, by omega⟩]
      simp only [Option.bind_some]
      rw [e32, if_pos ⟨rfl, by omega⟩]
      simp only [Option.bind_some]
      rw [e64, eC, eR, w64 (by omega)]
      simp only [show (0 : Int) ≤ (L.length : Int) + 1 from by omega, show (L.length : Int) + 1 ≤ (s.size : Int) from by omega, if_true]
      have e9 : ((L.length : Int) + 1).toNat = L.length + 1 := by omega
      rw [e9, eL1]
    have enc := implEncode_ev k (ba (pC L)) (ba (pR L)) (by omega) (by omega)
    unfold encB at enc
    rw [decide_eq_true (show 0 ≤ k ∧ k ≤ 59 from ⟨h0, h1⟩), Bool.true_and] at enc
    by_cases hv : recB (ba (pC L)) (ba (pR L)) = true
    · rw [if_pos hv] at enc
      have hr := key (ba (pC L), ba (pR L), (L.length : Int) + 1, ((lineB k (ba (pC L)) (ba (pR L))).toList == (ba (L ++ [10])).toList)) (Ev.bind enc (Ev.congr (fun q => by simp only [if_true]) (Ev.now _)))
      by_cases he : L = bs (sealB (headB k (ba (pC L)) (ba (pR L))))
      · right
        refine ⟨⟨hm, ?_⟩, ?_⟩
        · rw [hL]; exact ⟨hv, he⟩
        · rw [hL]
          have : ((lineB k (ba (pC L)) (ba (pR L))).toList == (ba (L ++ [10])).toList) = true := by
            rw [toList_bs, toList_bs, bs_ba, bs_lineB, ← he]; simp
          rw [this] at hr
          exact hr
      · left
        refine ⟨fun h => he ?_, ba (pC L), ba (pR L), (L.length : Int) + 1, ?_⟩
        · have := h.2.2; rwa [hL] at this
        · have : ((lineB k (ba (pC L)) (ba (pR L))).toList == (ba (L ++ [10])).toList) = false := by
            rw [toList_bs, toList_bs, bs_ba, bs_lineB, beq_eq_false_iff_ne]
            intro e; exact he (List.append_cancel_right e).symm
          rw [this] at hr
          exact hr
    · rw [if_neg hv] at enc
      left
      refine ⟨fun h => hv ?_, ba (pC L), ba (pR L), (L.length : Int) + 1, key _ (Ev.bind enc (Ev.congr (fun q => by rw [if_neg (by simp)]) (Ev.now _)))⟩
      have := h.2.1; rwa [hL] at this
  · left
    refine ⟨fun h => hm h.1, ⟨#[]⟩, ⟨#[]⟩, 0, Ev.congr (fun q => ?_) (Ev.now _)⟩
    unfold impl_decode.f
    simp only [strings_IndexByte.f, Option.bind_some]
    have e10 : (10 : Int).toNat.toUInt8 = 10 := rfl
    rw [e10, show Lib.indexByte s.data.toList 10 = -1 from idx_no 10 (bs s) hm, if_pos (by omega)]

/-! ### The spec's cut of a text -/
theorem l1Split_ev (s : ByteArray) (x : UInt8) (hs : s.size ≤ 1000000) : ∀ (l : List UInt8) (j : Nat) (a : Nat) (acc : List ByteArray), j ≤ s.size → a ≤ j → (bs s).drop j = l → acc.length + l.length < 8796093022208 →
    ∃ u : List ByteArray, Ev (fun q => spec_l1Split.l0 q s (x.toNat : Int) acc (a : Int) (j : Int)) (acc ++ u) ∧ (∃ t, u = s.extract a (j + (tw x l).length) :: t) ∧ (u.length < 2 ↔ x ∉ l) := by
  intro l
  induction l with
  | nil =>
    intro j a acc hj ha hl hz
    rcases drop_cases s j hj with ⟨h1, _⟩ | ⟨c, l, h1, _⟩
    · refine ⟨[s.extract a s.size], Ev.step (f := fun _ => some (acc ++ [s.extract a s.size])) (fun k => ?_) (Ev.now _), ⟨[], ?_⟩, by simp⟩
      · simp only [spec_l1Split.l0]
        have hz' : acc.length < 8796093022208 := by omega
        rw [if_neg (by omega), if_pos (by omega), if_pos (by omega), if_pos hz', Int.toNat_natCast]
      · rw [h1]; rfl
    · rw [hl] at h1; cases h1
  | cons c l ih =>
    intro j a acc hj ha hl hz
    obtain ⟨hb, hd, hlt⟩ := bt_drop s j c l hl
    simp only [List.length_cons] at hz
    by_cases h1 : c = x
    · obtain ⟨u, hu, _, _⟩ := ih (j + 1) (j + 1) (acc ++ [s.extract a j]) (by omega) (by omega) hd (by simp; omega)
      obtain ⟨u', hu', ⟨t, ht⟩, _⟩ := ih (j + 1) (j + 1) (acc ++ [s.extract a j]) (by omega) (by omega) hd (by simp; omega)
      refine ⟨s.extract a j :: u', ?_, ⟨u', ?_⟩, ?_⟩
      · rw [show acc ++ s.extract a j :: u' = (acc ++ [s.extract a j]) ++ u' by simp]
        refine Ev.step (fun k => ?_) hu'
        simp only [spec_l1Split.l0]
        have hz' : acc.length < 8796093022208 := by omega
        rw [if_pos (by omega), if_pos (by omega), hb, if_pos (by rw [h1]), if_pos (by omega), if_pos (by omega), if_pos (by omega), if_pos hz', w64 (by omega)]
        simp only [Int.toNat_natCast]
        rfl
      · rw [tw_cons, if_pos h1]; rfl
      · rw [ht, h1]; simp
    · obtain ⟨u, hu, ⟨t, ht⟩, hn⟩ := ih (j + 1) a acc (by omega) (by omega) hd (by omega)
      refine ⟨u, ?_, ⟨t, ?_⟩, ?_⟩
      · refine Ev.step (fun k => ?_) hu
        simp only [spec_l1Split.l0]
        rw [if_pos (by omega), if_pos (by omega), hb, if_neg (fun h => h1 (UInt8.toNat_inj.1 (by omega))), w64 (by omega)]
        rfl
      · rw [ht, tw_cons, if_neg h1, List.length_cons, Nat.add_right_comm, Nat.add_assoc]
      · rw [hn]; simp only [List.mem_cons, not_or]; exact ⟨fun h => ⟨fun e => h1 e.symm, h⟩, fun h => h.2⟩
theorem split_ev (s : ByteArray) (x : UInt8) (hs : s.size ≤ 1000000) : ∃ u : List ByteArray, Ev (fun q => spec_l1Split.f q s (x.toNat : Int)) u ∧ 0 < u.length ∧ rdOf ByteArray.empty u 0 = ba (tw x (bs s)) ∧ (u.length < 2 ↔ x ∉ bs s) := by
  obtain ⟨u, hu, ⟨t, ht⟩, hn⟩ := l1Split_ev s x hs (bs s) 0 0 [] (by omega) (by omega) rfl (by simp; omega)
  refine ⟨u, hu, by rw [ht]; simp, ?_, hn⟩
  have e : s.extract 0 (0 + (tw x (bs s)).length) = ba (tw x (bs s)) := bs_inj (by
    rw [bs_extract, bs_ba, Nat.zero_add, List.drop_zero]
    by_cases h : x ∈ bs s
    · have := tw_mem x (bs s) h
      generalize tw x (bs s) = T at *
      rw [this]; simp
    · rw [(tw_not x (bs s) h).1, List.take_length])
  rw [ht, e]
  rfl

/-! ### The spec's decoder -/
theorem specDecode_ev (l : List UInt8) (k : Int) (hs : l.length ≤ 900000) (h0 : 0 ≤ k) (h1 : k ≤ 59) :
    (¬ GoodL k l ∧ ∃ c r, Ev (fun q => spec_l12Decode.f q (ba l) k) (c, r, false)) ∨
    (GoodL k l ∧ Ev (fun q => spec_l12Decode.f q (ba l) k) (ba (pC l), ba (pR l), true)) := by
  have hn := num_size k (by omega) (by omega)
  have hN : (bs (num k)).length = (num k).size := bs_len _
  obtain ⟨u, hu, hu0, hu1, _⟩ := split_ev (ba l) 35 (by rw [ba_size]; omega)
  rw [bs_ba] at hu1
  have hH := tw_len 35 l
  have hHs : (ba (tw 35 l)).size = (tw 35 l).length := ba_size _
  obtain ⟨H, eH⟩ : ∃ H, tw 35 l = H := ⟨_, rfl⟩
  rw [eH] at hu1 hH hHs
  have good : ∀ (g : GoodL k l), H = bs (headB k (ba (pC l)) (ba (pR l))) := by
    intro g
    have := sealed_head k _ _ h0 g.1
    rw [← g.2, eH] at this
    exact this
  have goodN : GoodL k l → ∃ t, H = bs (num k) ++ 32 :: t := fun g => ⟨_, by rw [good g, bs_headB]⟩
  have key : ∀ v, Ev (fun q => if ((ba H).size : Int) < (((num k).size : Int) + 1) then (spec_l12Decode.j0 q (ba l) k (num k ++ (⟨#[32]⟩ : ByteArray)) (ba H) true) else (if (((num k).size : Int) + 1) ≤ ((ba H).size : Int) then (spec_l12Decode.j0 q (ba l) k (num k ++ (⟨#[32]⟩ : ByteArray)) (ba H) (((ba H).extract 0 ((num k).size + 1)).toList != (num k ++ (⟨#[32]⟩ : ByteArray)).toList)) else (none))) v → Ev (fun q => spec_l12Decode.f q (ba l) k) v := by
    intro v hv
    refine Ev.congr (f := fun q => (spec_l1Split.f q (ba l) 35).bind fun t155 => (if 0 < (t155.length : Int) then (if ((rdOf ByteArray.empty t155 0).size : Int) < (((num k).size : Int) + 1) then (spec_l12Decode.j0 q (ba l) k (num k ++ (⟨#[32]⟩ : ByteArray)) (rdOf ByteArray.empty t155 0) true) else (if (((num k).size : Int) + 1) ≤ ((rdOf ByteArray.empty t155 0).size : Int) then (spec_l12Decode.j0 q (ba l) k (num k ++ (⟨#[32]⟩ : ByteArray)) (rdOf ByteArray.empty t155 0) (((rdOf ByteArray.empty t155 0).extract 0 ((num k).size + 1)).toList != (num k ++ (⟨#[32]⟩ : ByteArray)).toList)) else (none))) else (none))) (fun q => ?_) (Ev.bind hu ?_)
    · unfold spec_l12Decode.f
      rw [l1Num_eq k (by omega) (by omega)]
      simp only [Option.bind_some]
      rw [if_pos (by omega)]
    · refine Ev.congr (fun q => ?_) hv
      rw [if_pos (by omega), hu1]
  have no : Ev (fun q => spec_l12Decode.j0 q (ba l) k (num k ++ (⟨#[32]⟩ : ByteArray)) (ba H) true) ((⟨#[]⟩ : ByteArray), (⟨#[]⟩ : ByteArray), false) :=
    Ev.step (f := fun _ => some ((⟨#[]⟩ : ByteArray), (⟨#[]⟩ : ByteArray), false)) (fun q => by simp [spec_l12Decode.j0]) (Ev.now _)
  by_cases hz : H.length < (num k).size + 1
  · left
    refine ⟨fun g => ?_, _, _, key _ (Ev.congr (fun q => by rw [if_pos (by omega)]) no)⟩
    obtain ⟨t, ht⟩ := goodN g
    have := congrArg List.length ht
    simp only [List.length_append, List.length_cons] at this
    omega
  · have key2 : ∀ v, Ev (fun q => spec_l12Decode.j0 q (ba l) k (num k ++ (⟨#[32]⟩ : ByteArray)) (ba H) (((ba H).extract 0 ((num k).size + 1)).toList != (num k ++ (⟨#[32]⟩ : ByteArray)).toList)) v → Ev (fun q => spec_l12Decode.f q (ba l) k) v :=
      fun v hv => key v (Ev.congr (fun q => by rw [if_neg (by omega), if_pos (by omega)]) hv)
    by_cases hp : H.take ((num k).size + 1) = bs (num k) ++ [32]
    · have ep : (((ba H).extract 0 ((num k).size + 1)).toList != (num k ++ (⟨#[32]⟩ : ByteArray)).toList) = false := by
        rw [toList_bs, toList_bs, bs_extract, bs_ba, bs_append, bs_one, List.drop_zero, hp]; simp
      rw [ep] at key2
      -- the rest of the head
      obtain ⟨R, hR⟩ : ∃ R, H.drop ((num k).size + 1) = R := ⟨_, rfl⟩
      have eHR : H = bs (num k) ++ 32 :: R := by
        rw [← hR]
        have := List.take_append_drop ((num k).size + 1) H
        rw [hp] at this
        rw [List.append_assoc] at this
        exact this.symm
      have hRl : H.length = (num k).size + 1 + R.length := by
        have := congrArg List.length eHR
        simp only [List.length_append, List.length_cons] at this
        omega
      have hRx : (ba H).extract ((num k).size + 1) (ba H).size = ba R := bs_inj (by
        rw [bs_extract, bs_ba, bs_ba, hHs, List.take_length, hR])
      have ed : dw 32 H = R := by rw [eHR]; exact (tw_app 32 _ _ (num_ne k h0 32 (by decide))).2
      have epC : pC l = tw 64 R := by unfold pC pH; rw [eH, ed]
      have epR : pR l = dw 64 R := by unfold pR pH; rw [eH, ed]
      obtain ⟨u2, hu2, hu20, hu21, hu22⟩ := split_ev (ba R) 64 (by rw [ba_size]; omega)
      rw [bs_ba] at hu21 hu22
      have hpz : (num k ++ (⟨#[32]⟩ : ByteArray)).size = (num k).size + 1 := by rw [← bs_len, bs_append, bs_one]; simp
      have hCl := tw_len 64 R
      have key3 : ∀ v, Ev (fun q => if ((tw 64 R).length : Int) = (R.length : Int) then (some ((⟨#[]⟩ : ByteArray), (⟨#[]⟩ : ByteArray), false)) else ((spec_l12Record.f q (ba (tw 64 R)) ((ba R).extract ((tw 64 R).length + 1) R.length)).bind fun t164 => (if t164 = true then ((spec_l12Line.f q k (ba (tw 64 R)) ((ba R).extract ((tw 64 R).length + 1) R.length)).bind fun t165 => (some (ba (tw 64 R), (ba R).extract ((tw 64 R).length + 1) R.length, (t165.toList == (ba l ++ (⟨#[10]⟩ : ByteArray)).toList)))) else (some (ba (tw 64 R), (ba R).extract ((tw 64 R).length + 1) R.length, false))))) v → Ev (fun q => spec_l12Decode.f q (ba l) k) v := by
        intro v hv
        refine key2 v (Ev.step (f := fun q => (spec_l1Split.f q (ba R) 64).bind fun t159 => (if 0 < (t159.length : Int) then (if ((rdOf ByteArray.empty t159 0).size : Int) = (R.length : Int) then (some ((⟨#[]⟩ : ByteArray), (⟨#[]⟩ : ByteArray), false)) else (if 0 ≤ (wrap64 (((rdOf ByteArray.empty t159 0).size : Int) + 1)) then (if (wrap64 (((rdOf ByteArray.empty t159 0).size : Int) + 1)) ≤ (R.length : Int) then ((spec_l12Record.f q (rdOf ByteArray.empty t159 0) ((ba R).extract ((wrap64 (((rdOf ByteArray.empty t159 0).size : Int) + 1)) : Int).toNat R.length)).bind fun t164 => (if t164 = true then ((spec_l12Line.f q k (rdOf ByteArray.empty t159 0) ((ba R).extract ((wrap64 (((rdOf ByteArray.empty t159 0).size : Int) + 1)) : Int).toNat R.length)).bind fun t165 => (if (ba l).size + 1 ≤ 9223372036854775807 then (some (rdOf ByteArray.empty t159 0, (ba R).extract ((wrap64 (((rdOf ByteArray.empty t159 0).size : Int) + 1)) : Int).toNat R.length, (t165.toList == (ba l ++ (⟨#[10]⟩ : ByteArray)).toList))) else (none))) else (some (rdOf ByteArray.empty t159 0, (ba R).extract ((wrap64 (((rdOf ByteArray.empty t159 0).size : Int) + 1)) : Int).toNat R.length, false)))) else (none)) else (none))) else (none))) (fun q => ?_) (Ev.bind hu2 ?_))
        · simp only [spec_l12Decode.j0]
          have e5 : (ba H).size - ((num k).size + 1) = R.length := by rw [hHs]; omega
          rw [if_neg (by simp), if_pos (by omega), hpz, hRx, e5]
        · refine Ev.congr (fun q => ?_) hv
          rw [if_pos (by omega), hu21, ba_size]
          by_cases h5 : ((tw 64 R).length : Int) = (R.length : Int)
          · rw [if_pos h5, if_pos h5]
          · have e6 : ((tw 64 R).length : Int) + 1 = (((tw 64 R).length + 1 : Nat) : Int) := by omega
            rw [if_neg h5, if_neg h5, w64 (by omega), if_pos (by omega), if_pos (by omega), e6, Int.toNat_natCast, ba_size]
            simp only [show l.length + 1 ≤ 9223372036854775807 from by omega, if_true]
      by_cases h6 : 64 ∈ R
      · have hT := tw_mem 64 R h6
        have hTl := congrArg List.length hT
        simp only [List.length_append, List.length_cons] at hTl
        have eX : (ba R).extract ((tw 64 R).length + 1) R.length = ba (dw 64 R) := bs_inj (by
          rw [bs_extract, bs_ba, bs_ba, List.take_length]
          generalize tw 64 R = T at *
          generalize dw 64 R = D at *
          rw [hT]; simp [List.drop_append])
        rw [eX, ← epC, ← epR] at key3
        have zC : (ba (pC l)).size ≤ 900000 := by rw [ba_size, epC]; omega
        have zR : (ba (pR l)).size ≤ 900000 := by rw [ba_size, epR]; omega
        have hne : ¬ ((pC l).length : Int) = (R.length : Int) := by rw [epC]; omega
        have hrec := l12Record_ev (ba (pC l)) (ba (pR l)) (by omega) (by omega)
        have hlin := l12Line_ev k (ba (pC l)) (ba (pR l)) (by omega) (by omega) (by omega) (by omega)
        by_cases hv : recB (ba (pC l)) (ba (pR l)) = true
        · rw [hv] at hrec
          have hr := key3 (ba (pC l), ba (pR l), ((lineB k (ba (pC l)) (ba (pR l))).toList == (ba l ++ (⟨#[10]⟩ : ByteArray)).toList)) (Ev.congr (fun q => by rw [if_neg hne]) (Ev.bind hrec (Ev.congr (fun q => by rw [if_pos rfl]) (Ev.bind hlin (Ev.now _)))))
          by_cases he : l = bs (sealB (headB k (ba (pC l)) (ba (pR l))))
          · right
            have : ((lineB k (ba (pC l)) (ba (pR l))).toList == (ba l ++ (⟨#[10]⟩ : ByteArray)).toList) = true := by
              rw [toList_bs, toList_bs, bs_append, bs_ba, bs_one, bs_lineB, ← he]; simp
            rw [this] at hr
            exact ⟨⟨hv, he⟩, hr⟩
          · left
            have : ((lineB k (ba (pC l)) (ba (pR l))).toList == (ba l ++ (⟨#[10]⟩ : ByteArray)).toList) = false := by
              rw [toList_bs, toList_bs, bs_append, bs_ba, bs_one, bs_lineB, beq_eq_false_iff_ne]
              intro e; exact he (List.append_cancel_right e).symm
            rw [this] at hr
            exact ⟨fun g => he g.2, _, _, hr⟩
        · left
          rw [Bool.eq_false_iff.mpr hv] at hrec
          exact ⟨fun g => hv g.1, _, _, key3 (ba (pC l), ba (pR l), false) (Ev.congr (fun q => by rw [if_neg hne]) (Ev.bind hrec (Ev.congr (fun q => by rw [if_neg (by simp)]) (Ev.now _))))⟩
      · left
        have hT := (tw_not 64 R h6).1
        refine ⟨fun g => h6 ?_, ⟨#[]⟩, ⟨#[]⟩, key3 _ (Ev.congr (fun q => by rw [hT, if_pos rfl]) (Ev.now _))⟩
        have := good g
        rw [eHR, bs_headB] at this
        have := List.append_cancel_left this
        injection this with _ this
        rw [this]; simp
    · left
      have ep : (((ba H).extract 0 ((num k).size + 1)).toList != (num k ++ (⟨#[32]⟩ : ByteArray)).toList) = true := by
        rw [toList_bs, toList_bs, bs_extract, bs_ba, bs_append, bs_one, List.drop_zero, bne_iff_ne]; exact hp
      rw [ep] at key2
      refine ⟨fun g => hp ?_, _, _, key2 _ no⟩
      obtain ⟨t, ht⟩ := goodN g
      rw [ht, ← hN, List.take_append, List.take_of_length_le (by omega)]
      simp
end Go.Proofs.YtccbpfconceoeaaDoor.Pure
