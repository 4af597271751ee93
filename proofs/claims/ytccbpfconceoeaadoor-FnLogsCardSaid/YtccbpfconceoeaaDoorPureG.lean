/- The readers that laws draw their inputs by: each ends, and what it gives is small. No conditions but those that each theorem names. -/
import Derived.Test.YtccbpfconceoeaaDoorPx0
import Derived.Test.YtccbpfconceoeaaDoorPx15
import Derived.Test.YtccbpfconceoeaaDoorPx16
import Derived.Test.YtccbpfconceoeaaDoorPx17
import Derived.Test.YtccbpfconceoeaaDoorPureA
import Derived.Test.YtccbpfconceoeaaDoorPureE
import Derived.Test.YtccbpfconceoeaaDoorPureI
import Derived.Laws.Bits64b
namespace Go.Proofs.YtccbpfconceoeaaDoor.Pure
open Go.RowKit Go.Proofs.YtccbpfconceoeaaDoor.P Go.Proofs.YtccbpfconceoeaaDoorW.PrintWords Go.Proofs.YtccbpfconceoeaaDoorW.PrintLast Go.Proofs.YtccbpfconceoeaaDoorW.PrintMore
/-- All are bytes. -/
def Rd (l : List Int) : Prop := ∀ x ∈ l, 0 ≤ x ∧ x ≤ 255
theorem Rd.at_ {l : List Int} (h : Rd l) (i : Int) : 0 ≤ rd l i ∧ rd l i ≤ 255 := by
  unfold rd
  rw [List.getD_eq_getElem?_getD]
  cases e : l[i.toNat]? with
  | none => simp
  | some x => exact h x (List.mem_of_getElem? e)
theorem wrapu (x : Int) : 0 ≤ IntKind.u64.wrap x ∧ IntKind.u64.wrap x < 18446744073709551616 := by
  rw [IntKind.wrap_u64]; omega
theorem and255 (x : Int) (h0 : 0 ≤ x) (h1 : x < 18446744073709551616) : 0 ≤ Go.bits .and .u64 x 255 ∧ Go.bits .and .u64 x 255 ≤ 255 := by
  obtain ⟨n, rfl⟩ := Int.eq_ofNat_of_zero_le h0
  have := bits_and_u64_nat n 255 (by omega) (by omega)
  rw [show ((255 : Nat) : Int) = 255 from rfl] at this
  rw [this]
  have := Nat.and_le_right (n := n) (m := 255)
  omega
theorem next_ok {l : List Int} (hl : Rd l) (at' seed : Int) (h0 : 0 ≤ at') (h1 : at' ≤ 1000000000000) : ∃ v sd, spec_l1Cur_next.f l at' seed = some (v, at' + 1, sd) ∧ 0 ≤ v ∧ v ≤ 255 := by
  have hr := hl.at_ at'
  have hw : wrap64 (at' + 1) = at' + 1 := w64 (by omega)
  have hwr : wrap64 (rd l at') = rd l at' := w64 (by omega)
  have big : ∀ y : Int, 0 ≤ wrap64 (Go.bits .and .u64 (IntKind.u64.wrap y / 1099511627776) 255) ∧ wrap64 (Go.bits .and .u64 (IntKind.u64.wrap y / 1099511627776) 255) ≤ 255 := by
    intro y
    have h2 := wrapu y
    have h3 := and255 (IntKind.u64.wrap y / 1099511627776) (by omega) (by omega)
    rw [w64 (by omega)]; exact h3
  unfold spec_l1Cur_next.f
  rw [hw, hwr]
  by_cases c1 : at' < (l.length : Int)
  · rw [if_pos c1, if_pos h0]
    by_cases c2 : at' + 1 ≤ (l.length : Int)
    · rw [if_pos c2]; exact ⟨_, _, rfl, hr⟩
    · rw [if_neg c2]; exact ⟨_, _, rfl, big _⟩
  · rw [if_neg c1]
    by_cases c2 : at' + 1 ≤ (l.length : Int)
    · rw [if_pos c2]; exact ⟨_, _, rfl, by omega, by omega⟩
    · rw [if_neg c2]; exact ⟨_, _, rfl, big _⟩
theorem tmod_range (a n : Int) (h0 : 0 ≤ a) (h1 : 0 < n) : 0 ≤ Int.tmod a n ∧ Int.tmod a n < n := by
  rw [Int.tmod_eq_emod_of_nonneg h0]
  exact ⟨Int.emod_nonneg _ (by omega), Int.emod_lt_of_pos _ h1⟩
theorem pick_ok {l : List Int} (hl : Rd l) (p seed n : Int) (h0 : 0 ≤ p) (h1 : p ≤ 100000000000) : ∃ v p' sd, spec_l1Cur_pick.f l p seed n = some (v, p', sd) ∧ p ≤ p' ∧ p' ≤ p + 2 ∧ 0 ≤ v ∧ (v < n ∨ v = 0) := by
  unfold spec_l1Cur_pick.f
  by_cases c1 : n ≤ 1
  · rw [if_pos c1]; exact ⟨_, _, _, rfl, by omega, by omega, by omega, .inr rfl⟩
  · rw [if_neg c1]
    obtain ⟨v, sd, e, hv0, hv1⟩ := next_ok hl p seed h0 (by omega)
    rw [e]
    simp only [obs]
    by_cases c2 : n > 200
    · rw [if_pos c2]
      obtain ⟨v2, sd2, e2, hw0, hw1⟩ := next_ok hl (p + 1) sd (by omega) (by omega)
      rw [e2]
      simp only [obs]
      have := tmod_range (wrap64 (wrap64 (v * 256) + v2)) n (by rw [w64 (z := v * 256) (by omega), w64 (by omega)]; omega) (by omega)
      rw [if_neg (by omega)]
      exact ⟨_, _, _, rfl, by omega, by omega, this.1, .inl this.2⟩
    · rw [if_neg c2, if_neg (by omega)]
      have := tmod_range v n hv0 (by omega)
      exact ⟨_, _, _, rfl, by omega, by omega, this.1, .inl this.2⟩
theorem one_ok {l : List Int} (hl : Rd l) (p seed n : Int) (h0 : 0 ≤ p) (h1 : p ≤ 100000000000) : ∃ b p' sd, spec_l1Cur_one.f l p seed n = some (b, p', sd) ∧ p ≤ p' ∧ p' ≤ p + 2 := by
  obtain ⟨v, p', sd, e, h2, h3, _⟩ := pick_ok hl p seed n h0 h1
  unfold spec_l1Cur_one.f
  rw [e]
  exact ⟨_, _, _, rfl, h2, h3⟩
theorem of_ok {l : List Int} (hl : Rd l) (p seed : Int) (ts : List ByteArray) (hts : 0 < ts.length) (hz : ∀ t ∈ ts, t.size ≤ 100) (h0 : 0 ≤ p) (h1 : p ≤ 100000000000) : ∃ t p' sd, spec_l1Cur_of.f l p seed ts = some (t, p', sd) ∧ p ≤ p' ∧ p' ≤ p + 2 ∧ t.size ≤ 100 := by
  obtain ⟨v, p', sd, e, h2, h3, h4, h5⟩ := pick_ok hl p seed (ts.length : Int) h0 h1
  unfold spec_l1Cur_of.f
  rw [e]
  simp only [obs]
  rw [if_pos h4, if_pos (by omega)]
  refine ⟨_, _, _, rfl, h2, h3, ?_⟩
  unfold rdOf
  rw [List.getD_eq_getElem?_getD, List.getElem?_eq_getElem (by omega)]
  exact hz _ (List.getElem_mem _)
theorem logRecord_ok {l : List Int} (hl : Rd l) (p seed : Int) (h0 : 0 ≤ p) (h1 : p ≤ 10000000000) : ∃ c r p' sd, spec_l1Cur_logRecord.f l p seed = some (c, r, p', sd) ∧ p ≤ p' ∧ p' ≤ p + 10 ∧ c.size ≤ 100 ∧ r.size ≤ 100 := by
  unfold spec_l1Cur_logRecord.f
  obtain ⟨t1, p1, s1, e1, a1, b1, z1⟩ := of_ok hl p seed (([(⟨#[111, 112, 101, 110]⟩ : ByteArray), (⟨#[121, 101, 115, 32, 53]⟩ : ByteArray), (⟨#[120]⟩ : ByteArray), (⟨#[110, 111, 32, 51]⟩ : ByteArray), (⟨#[48, 32, 49]⟩ : ByteArray)] : List ByteArray)) (by decide) (by decide) h0 (by omega)
  rw [e1]
  simp only [obs]
  obtain ⟨t2, p2, s2, e2, a2, b2, z2⟩ := of_ok hl p1 s1 (([(⟨#[]⟩ : ByteArray), (⟨#[51]⟩ : ByteArray), (⟨#[63]⟩ : ByteArray), (⟨#[97, 64, 98]⟩ : ByteArray), (⟨#[51, 32, 49, 32, 50]⟩ : ByteArray)] : List ByteArray)) (by decide) (by decide) (by omega) (by omega)
  rw [e2]
  simp only [obs]
  obtain ⟨v, p3, s3, e3, a3, b3, _⟩ := pick_ok hl p2 s2 24 (by omega) (by omega)
  rw [e3]
  simp only [obs]
  by_cases c1 : v = 0
  · rw [if_pos c1, if_pos (by omega)]
    obtain ⟨t4, p4, s4, e4, a4, b4, z4⟩ := of_ok hl p3 s3 (([(⟨#[]⟩ : ByteArray), (⟨#[97, 64, 98]⟩ : ByteArray), (⟨#[97, 35]⟩ : ByteArray), (⟨#[10]⟩ : ByteArray), strOfNums (List.replicate 3 0)] : List ByteArray)) (by decide) (by decide) (by omega) (by omega)
    rw [e4]
    exact ⟨t4, t2, p4, s4, rfl, by omega, by omega, z4, z2⟩
  · rw [if_neg c1]
    by_cases c2 : v = 1
    · rw [if_pos c2]
      obtain ⟨t4, p4, s4, e4, a4, b4, z4⟩ := of_ok hl p3 s3 (([(⟨#[35]⟩ : ByteArray), (⟨#[10]⟩ : ByteArray), (⟨#[127]⟩ : ByteArray)] : List ByteArray)) (by decide) (by decide) (by omega) (by omega)
      rw [e4]
      exact ⟨t1, t4, p4, s4, rfl, by omega, by omega, z1, z4⟩
    · rw [if_neg c2]
      exact ⟨t1, t2, p3, s3, rfl, by omega, by omega, z1, z2⟩
/-- What AppendRecord answers. -/
noncomputable def appendB (d p : ByteArray) (n : Int) (c r : ByteArray) : ByteArray × ByteArray × Int × Int :=
  if (validB d p n && recB c r) = true then (if n = 60 then (d, p, n, 2) else (d, p ++ lineB n c r, n + 1, 0)) else (d, p, n, 1)
theorem specAppend_ev (d p : ByteArray) (n : Int) (c r : ByteArray) (hd : d.size ≤ 140737488351232) (hp : p.size ≤ 140737488351232) (hc : c.size ≤ 140737488351232) (hr : r.size ≤ 140737488351232) : Ev (fun q => spec_AppendRecord.f q d p n c r) (appendB d p n c r) := by
  unfold appendB
  obtain ⟨b, hb⟩ : ∃ b, b = (validB d p n && recB c r) := ⟨_, rfl⟩
  have hb2 : b = true → (0 ≤ n ∧ n ≤ 60) ∧ recB c r = true := by
    intro h
    rw [hb, Bool.and_eq_true] at h
    have := validB_len h.1
    have := (recs_len (d ++ p)).1
    exact ⟨by omega, h.2⟩
  have j1 := appendSpec_ev d p n c r b hp hb2
  rw [← hb]
  refine Ev.bind (specValid_ev d p n hd hp) ?_
  by_cases h : validB d p n = true
  · refine Ev.congr (fun q => by rw [if_pos h]) (Ev.bind (l12Record_ev c r (by omega) (by omega)) ?_)
    rw [h, Bool.true_and] at hb
    rw [hb] at j1 ⊢; exact j1
  · refine Ev.congr (fun q => by rw [if_neg h]) ?_
    rw [Bool.eq_false_iff.mpr h, Bool.false_and] at hb
    rw [hb] at j1 ⊢; exact j1
/-- What SyncLog answers. -/
noncomputable def syncB (d p : ByteArray) (n : Int) : ByteArray × ByteArray × Int × Bool := if validB d p n = true then (d ++ p, (⟨#[]⟩ : ByteArray), n, true) else ((⟨#[]⟩ : ByteArray), (⟨#[]⟩ : ByteArray), 0, false)
theorem specSync_ev (d p : ByteArray) (n : Int) (hd : d.size ≤ 140737488351232) (hp : p.size ≤ 140737488351232) : Ev (fun q => spec_SyncLog.f q d p n) (syncB d p n) := by
  unfold syncB
  refine Ev.bind (specValid_ev d p n hd hp) (Ev.congr (fun q => ?_) (Ev.now _))
  by_cases h : validB d p n = true
  · rw [if_pos h, if_pos h, if_pos (by omega)]
  · rw [if_neg h, if_neg h]
theorem lineB_size (k : Int) (c r : ByteArray) (h0 : -9223372036854775808 ≤ k) (h1 : k ≤ 9223372036854775807) : (lineB k c r).size ≤ c.size + r.size + 100 := by
  have h2 := sealB_size (headB k c r)
  have h3 := headB_size k c r
  have h4 := num_size k h0 h1
  have h5 : (lineB k c r).size = (sealB (headB k c r)).size + 1 := by unfold lineB; rw [ByteArray.size_append]; rfl
  omega
theorem log12_ok {l : List Int} (hl : Rd l) : ∀ (m : Nat) (x p seed : Int) (d pd : ByteArray) (n : Int), x ≤ m → m ≤ 100 → 0 ≤ p → p + 100 * m ≤ 100000000 → d.size + pd.size + 400 * m ≤ 200000 → 0 ≤ n → n + m ≤ 1000 →
    ∃ d' pd' n' p' sd, Ev (fun k => spec_l1Cur_log12.l0 k x l p seed d pd n) (d', pd', n', p', sd) ∧ d'.size + pd'.size ≤ 200000 ∧ 0 ≤ n' ∧ n' ≤ 1000 ∧ 0 ≤ p' ∧ p' ≤ 100000000 := by
  intro m
  induction m with
  | zero =>
    intro x p seed d pd n hx _ h0 h1 hz hn hn2
    refine ⟨d, pd, n, p, seed, Ev.step (f := fun _ => some (d, pd, n, p, seed)) (fun k => ?_) (Ev.now _), by omega, by omega, by omega, by omega, by omega⟩
    simp only [spec_l1Cur_log12.l0]
    rw [if_neg (by omega)]
  | succ m ih =>
    intro x p seed d pd n hx hm h0 h1 hz hn hn2
    by_cases hx0 : x > 0
    · obtain ⟨c, r, p1, s1, e1, a1, b1, zc, zr⟩ := logRecord_ok hl p seed h0 (by omega)
      have hA := specAppend_ev d pd n c r (by omega) (by omega) (by omega) (by omega)
      obtain ⟨d1, q1, n1, st, hB, hsz, hn0, hn1⟩ : ∃ d1 q1 n1 st, appendB d pd n c r = (d1, q1, n1, st) ∧ d1.size + q1.size ≤ d.size + pd.size + 300 ∧ 0 ≤ n1 ∧ n1 ≤ n + 1 := by
        unfold appendB
        split
        · split
          · exact ⟨_, _, _, _, rfl, by omega, by omega, by omega⟩
          · have := lineB_size n c r (by omega) (by omega)
            exact ⟨_, _, _, _, rfl, by rw [ByteArray.size_append]; omega, by omega, by omega⟩
        · exact ⟨_, _, _, _, rfl, by omega, by omega, by omega⟩
      rw [hB] at hA
      obtain ⟨b, p2, s2, e2, a2, b2⟩ := one_ok hl p1 s1 4 (by omega) (by omega)
      have hw : wrap64 (x - 1) = x - 1 ∨ True := .inr trivial
      have key : ∀ v, Ev (fun k => (spec_AppendRecord.f k d pd n c r).bind fun bt480 => (if b = true then ((spec_SyncLog.f k bt480.1 bt480.2.1 bt480.2.2.1).bind fun bt487 => (spec_l1Cur_log12.l0 k (x - 1) l p2 s2 bt487.1 bt487.2.1 bt487.2.2.1)) else (spec_l1Cur_log12.l0 k (x - 1) l p2 s2 bt480.1 bt480.2.1 bt480.2.2.1))) v → Ev (fun k => spec_l1Cur_log12.l0 k x l p seed d pd n) v := by
        intro v hv
        refine Ev.step (fun k => ?_) hv
        simp only [spec_l1Cur_log12.l0]
        rw [if_pos hx0, e1]
        simp only [obs]
        rw [e2]
        simp only [obs]
        rw [w64 (by omega)]
      cases b with
      | true =>
        have hS := specSync_ev d1 q1 n1 (by omega) (by omega)
        obtain ⟨d2, q2, n2, ok, hC, hsz2, hm0, hm1⟩ : ∃ d2 q2 n2 ok, syncB d1 q1 n1 = (d2, q2, n2, ok) ∧ d2.size + q2.size ≤ d1.size + q1.size ∧ 0 ≤ n2 ∧ n2 ≤ n1 := by
          unfold syncB
          split
          · exact ⟨_, _, _, _, rfl, by rw [ByteArray.size_append]; exact Nat.le_refl _, by omega, by omega⟩
          · exact ⟨(⟨#[]⟩ : ByteArray), (⟨#[]⟩ : ByteArray), 0, false, rfl, Nat.zero_le _, by omega, by omega⟩
        rw [hC] at hS
        obtain ⟨d', q', n', p', sd, he, hr⟩ := ih (x - 1) p2 s2 d2 q2 n2 (by omega) (by omega) (by omega) (by omega) (by omega) (by omega) (by omega)
        exact ⟨d', q', n', p', sd, key _ (Ev.bind hA (Ev.congr (fun k => by rw [if_pos rfl]) (Ev.bind hS he))), hr⟩
      | false =>
        obtain ⟨d', q', n', p', sd, he, hr⟩ := ih (x - 1) p2 s2 d1 q1 n1 (by omega) (by omega) (by omega) (by omega) (by omega) (by omega) (by omega)
        exact ⟨d', q', n', p', sd, key _ (Ev.bind hA (Ev.congr (fun k => by rw [if_neg (by simp)]) he)), hr⟩
    · refine ⟨d, pd, n, p, seed, Ev.step (f := fun _ => some (d, pd, n, p, seed)) (fun k => ?_) (Ev.now _), by omega, by omega, by omega, by omega, by omega⟩
      simp only [spec_l1Cur_log12.l0]
      rw [if_neg hx0]
theorem spoilt_ok {l : List Int} (hl : Rd l) (p seed : Int) (s u : ByteArray) (hu : 1 ≤ u.size) (hu2 : u.size ≤ 100) (hs : s.size ≤ 1000000) (h0 : 0 ≤ p) (h1 : p ≤ 1000000000) : ∃ t p' sd, spec_l1Cur_spoilt.f l p seed s u = some (t, p', sd) ∧ p ≤ p' ∧ p' ≤ p + 6 ∧ t.size ≤ s.size + 1 := by
  unfold spec_l1Cur_spoilt.f
  by_cases c0 : s.toList = ([] : List UInt8)
  · rw [if_pos c0, if_pos (by omega)]
    exact ⟨u.extract 0 1, p, seed, rfl, by omega, by omega, by rw [ByteArray.size_extract]; omega⟩
  · rw [if_neg c0]
    have hpos : 0 < s.size := by
      rcases Nat.eq_zero_or_pos s.size with h | h
      · exact absurd (by rw [toList_bs]; exact List.eq_nil_of_length_eq_zero (by rw [bs_len]; exact h)) c0
      · exact h
    obtain ⟨v1, p1, s1, e1, a1, b1, c1, d1⟩ := pick_ok hl p seed (s.size : Int) h0 (by omega)
    rw [e1]; simp only [obs]
    obtain ⟨v2, p2, s2, e2, a2, b2, c2, d2⟩ := pick_ok hl p1 s1 (u.size : Int) (by omega) (by omega)
    rw [e2]; simp only [obs]
    rw [if_pos c2, if_pos (by omega), if_pos (by omega)]
    obtain ⟨v3, p3, s3, e3, a3, b3, c3, d3⟩ := pick_ok hl p2 s2 3 (by omega) (by omega)
    rw [e3]; simp only [obs]
    have hw : wrap64 (v1 + 1) = v1 + 1 := w64 (by omega)
    by_cases q1 : v3 = 0
    · rw [if_pos q1, if_pos c1, if_pos (by omega), if_pos (by omega), if_pos (by omega)]
      refine ⟨_, p3, s3, rfl, by omega, by omega, ?_⟩
      simp only [ByteArray.size_append, ByteArray.size_extract]; omega
    · rw [if_neg q1]
      by_cases q2 : v3 = 1
      · rw [if_pos q2, if_pos c1, if_pos (by omega), if_pos (by omega), hw, if_pos (by omega), if_pos (by omega), if_pos (by omega)]
        refine ⟨_, p3, s3, rfl, by omega, by omega, ?_⟩
        simp only [ByteArray.size_append, ByteArray.size_extract]; omega
      · rw [if_neg q2, if_pos c1, if_pos (by omega), hw, if_pos (by omega), if_pos (by omega), if_pos (by omega)]
        refine ⟨_, p3, s3, rfl, by omega, by omega, ?_⟩
        simp only [ByteArray.size_append, ByteArray.size_extract]; omega
theorem log12_ev {l : List Int} (hl : Rd l) (seed : Int) : ∃ d pd n p sd, Ev (fun k => spec_l1Cur_log12.f k l 0 seed) (d, pd, n, p, sd) ∧ d.size + pd.size ≤ 200000 ∧ 0 ≤ n ∧ n ≤ 1000 ∧ 0 ≤ p ∧ p ≤ 100000000 := by
  obtain ⟨v, p1, s1, e1, a1, b1, c1, d1⟩ := pick_ok hl 0 seed 7 (by omega) (by omega)
  obtain ⟨d, pd, n, p, sd, he, hr⟩ := log12_ok hl 7 v p1 s1 (⟨#[]⟩ : ByteArray) (⟨#[]⟩ : ByteArray) 0 (by omega) (by omega) (by omega) (by omega) (by decide) (by omega) (by omega)
  refine ⟨d, pd, n, p, sd, Ev.congr (fun k => ?_) he, hr⟩
  unfold spec_l1Cur_log12.f
  rw [e1]; simp only [obs]
theorem anyLog_ev {l : List Int} (hl : Rd l) (seed : Int) : ∃ d pd n p sd, Ev (fun k => spec_l1Cur_anyLog.f k l 0 seed) (d, pd, n, p, sd) ∧ d.size + pd.size ≤ 500000 ∧ 0 ≤ n ∧ n ≤ 1001 ∧ 0 ≤ p ∧ p ≤ 200000000 := by
  obtain ⟨d, pd, n, p, sd, he, hz, hn0, hn1, hp0, hp1⟩ := log12_ev hl seed
  obtain ⟨v, p1, s1, e1, a1, b1, c1, d1⟩ := pick_ok hl p sd 24 hp0 (by omega)
  have key : ∀ v' , Ev (fun _ => if v = 0 then (some (d, pd, n + 1, p1, s1)) else (if v = 1 then ((spec_l1Cur_spoilt.f l p1 s1 pd (⟨#[35, 64, 10, 48, 49]⟩ : ByteArray)).bind fun bt510 => (some (d, bt510.1, n, bt510.2.1, bt510.2.2))) else (if v = 2 then (some (d ++ pd, pd, n, p1, s1)) else (some (d, pd, n, p1, s1))))) v' → Ev (fun k => spec_l1Cur_anyLog.f k l 0 seed) v' := by
    intro v' hv
    unfold spec_l1Cur_anyLog.f
    refine Ev.bind he (Ev.congr (fun k => ?_) hv)
    simp only
    rw [e1]; simp only [obs]
    rw [w64 (by omega)]
    by_cases q2 : v = 2
    · rw [if_pos (show d.size + pd.size ≤ 9223372036854775807 by omega)]
    · simp only [if_neg q2]
  by_cases q0 : v = 0
  · exact ⟨d, pd, n + 1, p1, s1, key _ (by simp only [if_pos q0]; exact Ev.now _), by omega, by omega, by omega, by omega, by omega⟩
  · by_cases q1 : v = 1
    · obtain ⟨t, p2, s2, e2, a2, b2, z2⟩ := spoilt_ok hl p1 s1 pd (⟨#[35, 64, 10, 48, 49]⟩ : ByteArray) (by decide) (by decide) (by omega) (by omega) (by omega)
      exact ⟨d, t, n, p2, s2, key _ (by simp only [if_neg q0, if_pos q1, e2, obs]; exact Ev.now _), by omega, by omega, by omega, by omega, by omega⟩
    · by_cases q2 : v = 2
      · exact ⟨d ++ pd, pd, n, p1, s1, key _ (by simp only [if_neg q0, if_neg q1, if_pos q2]; exact Ev.now _), by rw [ByteArray.size_append]; omega, by omega, by omega, by omega, by omega⟩
      · exact ⟨d, pd, n, p1, s1, key _ (by simp only [if_neg q0, if_neg q1, if_neg q2]; exact Ev.now _), by omega, by omega, by omega, by omega, by omega⟩
theorem vCut_ev (l : List Int) (a : Int) (h : l.length ≤ 100000) (h0 : 0 ≤ a) : Ev (fun k => laws_vCut.f k l a) (if a > (l.length : Int) then [((l.length : Int)) % 256] else l.drop a.toNat ++ [a % 256]) := by
  have J : ∀ x : Int, 0 ≤ x → x ≤ (l.length : Int) → Ev (fun k => laws_vCut.j0 k l x) (l.drop x.toNat ++ [x % 256]) := by
    intro x hx0 hx1
    refine Ev.step (f := fun _ => some (l.drop x.toNat ++ [x % 256])) (fun k => ?_) (Ev.now _)
    have hz : (l.drop x.toNat).length ≤ 100000 := by rw [List.length_drop]; omega
    simp only [laws_vCut.j0, Option.bind_some, List.nil_append, List.length_nil]
    rw [if_pos hx0, if_pos hx1, if_pos (by omega), if_pos (by omega)]
  by_cases c : a > (l.length : Int)
  · rw [if_pos c]
    have := J (l.length : Int) (by omega) (by omega)
    rw [Int.toNat_natCast, List.drop_length, List.nil_append] at this
    exact Ev.congr (fun k => by unfold laws_vCut.f; rw [if_pos c]) this
  · rw [if_neg c]
    exact Ev.congr (fun k => by unfold laws_vCut.f; rw [if_neg c]) (J a h0 (by omega))
theorem vCut_rd {l : List Int} (hl : Rd l) (a : Int) : Rd (if a > (l.length : Int) then [((l.length : Int)) % 256] else l.drop a.toNat ++ [a % 256]) := by
  split
  · intro x hx
    simp only [List.mem_singleton] at hx
    omega
  · intro x hx
    rcases List.mem_append.1 hx with hx | hx
    · exact hl x (List.mem_of_mem_drop hx)
    · simp only [List.mem_singleton] at hx
      omega
end Go.Proofs.YtccbpfconceoeaaDoor.Pure
