/- A log with one record more: its scan, its size; what AppendRecord, SyncLog and LogRecords of the program answer. No conditions but those that each theorem names. -/
import Derived.Test.YtccbpfconceoeaaDoorPx0
import Derived.Test.YtccbpfconceoeaaDoorPx15
import Derived.Test.YtccbpfconceoeaaDoorPx16
import Derived.Test.YtccbpfconceoeaaDoorPx17
import Derived.Test.YtccbpfconceoeaaDoorPureA
import Derived.Test.YtccbpfconceoeaaDoorPureB
import Derived.Test.YtccbpfconceoeaaDoorPureD
import Derived.Test.YtccbpfconceoeaaDoorPureE
import Derived.Test.YtccbpfconceoeaaDoorPureG
import Derived.Test.YtccbpfconceoeaaDoorPureI
namespace Go.Proofs.YtccbpfconceoeaaDoor.Pure
open Go.RowKit Go.Proofs.YtccbpfconceoeaaDoor.P Go.Proofs.YtccbpfconceoeaaDoorW.PrintWords Go.Proofs.YtccbpfconceoeaaDoorW.PrintLast Go.Proofs.YtccbpfconceoeaaDoorW.PrintMore
theorem tw_10_line (k : Int) (c r : ByteArray) (h0 : 0 ≤ k) (h : recB c r = true) : tw 10 (bs (lineB k c r)) = bs (sealB (headB k c r)) ∧ 10 ∈ bs (lineB k c r) := by
  have h1 := bs_lineB k c r
  have h2 := tw_app 10 (bs (sealB (headB k c r))) [] (sealed_10 k c r h0 h)
  rw [h1]
  exact ⟨h2.1, List.mem_append_right _ (List.mem_singleton.2 rfl)⟩
theorem good_line (k : Int) (c r : ByteArray) (h0 : 0 ≤ k) (h : recB c r = true) : Good k (bs (lineB k c r)) ∧ recOf (bs (lineB k c r)) = ⟨c, r⟩ := by
  obtain ⟨e1, e2⟩ := tw_10_line k c r h0 h
  obtain ⟨g, hc, hr⟩ := goodL_of k c r h0 h (l := tw 10 (bs (lineB k c r))) e1
  refine ⟨⟨e2, g⟩, ?_⟩
  unfold recOf
  rw [hc, hr]
theorem line_len (k : Int) (c r : ByteArray) : (bs (lineB k c r)).length = (bs (sealB (headB k c r))).length + 1 := by
  rw [bs_lineB, List.length_append]; rfl
theorem scan_more (a : List UInt8) (c r : ByteArray) (h : recB c r = true) : ∀ (n : Nat) (acc : List S27) (pos : Nat), pos ≤ a.length → lastOf pos (scan a n acc pos).2 = a.length → (scan a n acc pos).1.length < acc.length + n →
    (scan (a ++ bs (lineB ((scan a n acc pos).1.length : Int) c r)) n acc pos).1 = (scan a n acc pos).1 ++ [⟨c, r⟩] ∧ lastOf pos (scan (a ++ bs (lineB ((scan a n acc pos).1.length : Int) c r)) n acc pos).2 = (a ++ bs (lineB ((scan a n acc pos).1.length : Int) c r)).length := by
  intro n
  induction n with
  | zero => intro acc pos _ _ h3; simp [scan] at h3
  | succ n ih =>
    intro acc pos hp hl hn
    by_cases hg : Good (acc.length : Int) (a.drop pos)
    · have e1 : scan a (n + 1) acc pos = ((scan a n (acc ++ [recOf (a.drop pos)]) (pos + (tw 10 (a.drop pos)).length + 1)).1, (pos + (tw 10 (a.drop pos)).length + 1) :: (scan a n (acc ++ [recOf (a.drop pos)]) (pos + (tw 10 (a.drop pos)).length + 1)).2) := by
        conv => lhs; unfold scan
        rw [if_pos hg]
      rw [e1] at hl hn ⊢
      have hgl := good_len hg
      rw [List.length_drop] at hgl
      have ih' := ih (acc ++ [recOf (a.drop pos)]) (pos + (tw 10 (a.drop pos)).length + 1) (by omega) hl (by simp only [List.length_append, List.length_cons, List.length_nil] at hn ⊢; omega)
      simp only at ih' ⊢
      obtain ⟨ℓ, hℓ⟩ : ∃ ℓ, ℓ = bs (lineB ((scan a n (acc ++ [recOf (a.drop pos)]) (pos + (tw 10 (a.drop pos)).length + 1)).1.length : Int) c r) := ⟨_, rfl⟩
      rw [← hℓ] at ih' ⊢
      have ed : (a ++ ℓ).drop pos = a.drop pos ++ ℓ := List.drop_append_of_le_length hp
      have g2 := good_two (acc.length : Int) (a.drop pos) ℓ
      have er : recOf (a.drop pos ++ ℓ) = recOf (a.drop pos) := by unfold recOf; rw [(g2.1 hg).2]
      have e2 : scan (a ++ ℓ) (n + 1) acc pos = ((scan (a ++ ℓ) n (acc ++ [recOf (a.drop pos)]) (pos + (tw 10 (a.drop pos)).length + 1)).1, (pos + (tw 10 (a.drop pos)).length + 1) :: (scan (a ++ ℓ) n (acc ++ [recOf (a.drop pos)]) (pos + (tw 10 (a.drop pos)).length + 1)).2) := by
        conv => lhs; unfold scan
        rw [ed, if_pos (g2.1 hg).1, (g2.1 hg).2, er]
      rw [e2]
      exact ih'
    · have e1 : scan a (n + 1) acc pos = (acc, []) := by
        conv => lhs; unfold scan
        rw [if_neg hg]
      rw [e1] at hl hn ⊢
      have hpa : pos = a.length := hl
      simp only
      obtain ⟨gd, gr⟩ := good_line (acc.length : Int) c r (by omega) h
      have e3 := (tw_10_line (acc.length : Int) c r (by omega) h).1
      have e4 := line_len (acc.length : Int) c r
      obtain ⟨ℓ, hℓ⟩ : ∃ ℓ, ℓ = bs (lineB (acc.length : Int) c r) := ⟨_, rfl⟩
      rw [← hℓ] at gd gr e3 e4 ⊢
      have ed : (a ++ ℓ).drop pos = ℓ := by rw [hpa]; exact List.drop_left ..
      have hend : pos + (tw 10 ℓ).length + 1 = (a ++ ℓ).length := by rw [e3, List.length_append, hpa]; omega
      have e5 : scan (a ++ ℓ) n (acc ++ [⟨c, r⟩]) (pos + (tw 10 ℓ).length + 1) = (acc ++ [⟨c, r⟩], []) := by
        cases n with
        | zero => rfl
        | succ n =>
          unfold scan
          rw [hend, List.drop_length, if_neg]
          rintro ⟨h1, _⟩
          cases h1
      have e2 : scan (a ++ ℓ) (n + 1) acc pos = (acc ++ [⟨c, r⟩], [pos + (tw 10 ℓ).length + 1]) := by
        conv => lhs; unfold scan
        rw [ed, if_pos gd, gr, e5]
      rw [e2]
      exact ⟨rfl, hend⟩
theorem num_two (k : Int) (h0 : 0 ≤ k) (h1 : k ≤ 59) : (num k).size ≤ 2 := by
  have h : ∀ m : Fin 60, (num (m.val : Int)).size ≤ 2 := by decide +kernel
  have := h ⟨k.toNat, by omega⟩
  have e : ((k.toNat : Nat) : Int) = k := by omega
  simp only [e] at this
  exact this
theorem seal_small (k : Int) (c r : ByteArray) (h0 : 0 ≤ k) (h1 : k ≤ 59) (h : recB c r = true) : (bs (sealB (headB k c r))).length ≤ 436 := by
  rw [bs_len]
  have a1 := sealB_size (headB k c r)
  have a2 := headB_size k c r
  have a3 := num_two k h0 h1
  have a4 := recB_size h
  omega
theorem scan_size (s : List UInt8) : ∀ (n : Nat) (acc : List S27) (pos : Nat), pos ≤ 437 * acc.length → acc.length + n ≤ 60 → lastOf pos (scan s n acc pos).2 ≤ 437 * (scan s n acc pos).1.length := by
  intro n
  induction n with
  | zero => intro acc pos h _; exact h
  | succ n ih =>
    intro acc pos h1 h2
    unfold scan
    by_cases hg : Good (acc.length : Int) (s.drop pos)
    · rw [if_pos hg]
      refine ih _ _ ?_ (by simp only [List.length_append, List.length_cons, List.length_nil]; omega)
      obtain ⟨_, hr, he⟩ := hg
      have := seal_small (acc.length : Int) _ _ (by omega) (by omega) hr
      rw [← he] at this
      simp only [List.length_append, List.length_cons, List.length_nil]
      omega
    · rw [if_neg hg]; exact h1
theorem valid_more (d p : ByteArray) (n : Int) (c r : ByteArray) (hv : validB d p n = true) (hr : recB c r = true) (hn : n ≠ 60) :
    validB d (p ++ lineB n c r) (n + 1) = true ∧ recsOf (d ++ (p ++ lineB n c r)) = recsOf (d ++ p) ++ [⟨c, r⟩] := by
  have hlen := validB_len hv
  have h60 := (recs_len (d ++ p)).1
  have hv' := hv
  unfold validB at hv'
  simp only [Bool.and_eq_true, decide_eq_true_eq] at hv'
  obtain ⟨_, hA, hD, _⟩ := hv'
  have hsc : scan (bs (d ++ p)) 60 [] 0 = scan (bs (d ++ p)) 60 [] 0 := rfl
  have m := scan_more (bs (d ++ p)) c r hr 60 [] 0 (by omega) (by rw [bs_len, app_size]; exact hA) (by show (recsOf (d ++ p)).length < _; simp only [List.length_nil]; omega)
  have e0 : ((scan (bs (d ++ p)) 60 [] 0).1.length : Int) = n := hlen
  rw [e0] at m
  have e1 : bs (d ++ p) ++ bs (lineB n c r) = bs (d ++ (p ++ lineB n c r)) := by rw [bs_append, bs_append, bs_append, List.append_assoc]
  rw [e1] at m
  obtain ⟨m1, m2⟩ := m
  have hsz := scan_size (bs (d ++ (p ++ lineB n c r))) 60 [] 0 (by simp) (by simp)
  rw [m2, m1, bs_len, app_size] at hsz
  have hl2 : ((scan (bs (d ++ p)) 60 [] 0).1 ++ [(⟨c, r⟩ : S27)]).length = (recsOf (d ++ p)).length + 1 := by rw [List.length_append]; rfl
  rw [hl2] at hsz
  have hrec : recsOf (d ++ (p ++ lineB n c r)) = recsOf (d ++ p) ++ [⟨c, r⟩] := m1
  refine ⟨?_, hrec⟩
  have hend : endOf (d ++ (p ++ lineB n c r)) = d.size + (p ++ lineB n c r).size := by rw [← app_size, ← bs_len]; exact m2
  unfold validB
  rw [decide_eq_true (show d.size + (p ++ lineB n c r).size ≤ 30000 by omega), decide_eq_true hend, decide_eq_true hD, hrec]
  have hl3 : (((recsOf (d ++ p) ++ [(⟨c, r⟩ : S27)]).length : Nat) : Int) = n + 1 := by rw [List.length_append]; simp only [List.length_cons, List.length_nil]; omega
  rw [decide_eq_true hl3]
  rfl
theorem valid_sync (d p : ByteArray) (n : Int) (hv : validB d p n = true) : validB (d ++ p) (⟨#[]⟩ : ByteArray) n = true ∧ recsOf ((d ++ p) ++ (⟨#[]⟩ : ByteArray)) = recsOf (d ++ p) := by
  have happ : (d ++ p) ++ (⟨#[]⟩ : ByteArray) = d ++ p := bs_inj (by rw [bs_append]; simp [bs])
  have hlen := validB_len hv
  unfold validB at hv
  simp only [Bool.and_eq_true, decide_eq_true_eq] at hv
  obtain ⟨h0, hA, hD, _⟩ := hv
  refine ⟨?_, by rw [happ]⟩
  unfold validB
  have hz : (⟨#[]⟩ : ByteArray).size = 0 := rfl
  rw [happ, app_size, hz, decide_eq_true (show d.size + p.size + 0 ≤ 30000 by omega), decide_eq_true (show endOf (d ++ p) = d.size + p.size + 0 by omega), decide_eq_true (show endOf (d ++ p) = d.size + p.size by omega), decide_eq_true hlen]
  rfl
/-- What LogRecords answers. -/
noncomputable def recsB (d p : ByteArray) (n : Int) : List S27 × Bool := (if validB d p n = true then recsOf (d ++ p) else [], validB d p n)
theorem implLogRecs_ev (d p : ByteArray) (n : Int) (hd : d.size ≤ 140737488351232) (hp : p.size ≤ 140737488351232) : Ev (fun q => impl_LogRecords.f q d p n) (recsB d p n) := by
  unfold recsB
  refine Ev.bind (read_ev d p n hd hp) ?_
  by_cases h : validB d p n = true
  · have hs := validB_small h
    refine Ev.congr (fun q => by rw [if_pos h]) ?_
    rw [if_pos h, h]
    unfold readB
    rw [if_pos hs]
    exact Ev.now _
  · refine Ev.congr (fun q => by rw [if_neg h]) ?_
    rw [if_neg h, Bool.eq_false_iff.mpr h]
    exact Ev.now _
theorem specLogRecs_ev (d p : ByteArray) (n : Int) (hd : d.size ≤ 140737488351232) (hp : p.size ≤ 140737488351232) : Ev (fun q => spec_LogRecords.f q d p n) (recsB d p n) := by
  unfold recsB
  refine Ev.bind (specValid_ev d p n hd hp) ?_
  by_cases h : validB d p n = true
  · have hs := validB_small h
    refine Ev.congr (fun q => by rw [if_pos h, if_pos (by omega)]) (Ev.bind (open_ev (d ++ p) (by rw [app_size]; omega)) ?_)
    rw [if_pos h, h]
    exact Ev.now _
  · refine Ev.congr (fun q => by rw [if_neg h]) ?_
    rw [if_neg h, Bool.eq_false_iff.mpr h]
    exact Ev.now _
theorem recsB_len (d p : ByteArray) (n : Int) : (recsB d p n).1.length ≤ 60 := by
  unfold recsB
  have := (recs_len (d ++ p)).1
  simp only
  split
  · exact this
  · simp
theorem implAppend_ev (d p : ByteArray) (n : Int) (c r : ByteArray) (hd : d.size ≤ 140737488351232) (hp : p.size ≤ 140737488351232) (hc : c.size ≤ 140737488351232) (hr : r.size ≤ 140737488351232) : Ev (fun q => impl_AppendRecord.f q d p n c r) (appendB d p n c r) := by
  unfold appendB
  obtain ⟨b, hb⟩ : ∃ b, b = (validB d p n && recB c r) := ⟨_, rfl⟩
  have hb2 : b = true → (0 ≤ n ∧ n ≤ 60) ∧ recB c r = true := by
    intro h
    rw [hb, Bool.and_eq_true] at h
    have := validB_len h.1
    have := (recs_len (d ++ p)).1
    exact ⟨by omega, h.2⟩
  have j2 := appendImpl_ev d p n c r b hp hb2
  rw [← hb]
  refine Ev.bind (implValid_ev d p n hd hp) ?_
  by_cases h : validB d p n = true
  · refine Ev.congr (fun q => by rw [if_pos h]) (Ev.bind (IsValidRecord_ev c r (by omega) (by omega)) ?_)
    rw [h, Bool.true_and] at hb
    rw [hb] at j2 ⊢; exact j2
  · refine Ev.congr (fun q => by rw [if_neg h]) ?_
    rw [Bool.eq_false_iff.mpr h, Bool.false_and] at hb
    rw [hb] at j2 ⊢; exact j2
theorem implSync_ev (d p : ByteArray) (n : Int) (hd : d.size ≤ 140737488351232) (hp : p.size ≤ 140737488351232) : Ev (fun q => impl_SyncLog.f q d p n) (syncB d p n) := by
  unfold syncB
  refine Ev.bind (implValid_ev d p n hd hp) (Ev.congr (fun q => ?_) (Ev.now _))
  by_cases h : validB d p n = true
  · rw [if_pos h, if_pos h, if_pos (by omega)]
  · rw [if_neg h, if_neg h]
theorem drawAppend_loop {l : List Int} (hl : Rd l) : ∀ (m : Nat) (x p seed : Int) (d pd : ByteArray) (n : Int), x ≤ m → m ≤ 100 → 0 ≤ p → p ≤ 1000000000 → d.size + pd.size + 300 * m ≤ 200000 → 0 ≤ n → n + m ≤ 1000 →
    ∃ d' pd' n' c r, Ev (fun k => spec_DrawAppendRecord.l0 k x l p seed d pd n) (d', pd', n', c, r) ∧ d'.size + pd'.size ≤ 200000 ∧ c.size ≤ 100 ∧ r.size ≤ 100 := by
  intro m
  induction m with
  | zero =>
    intro x p seed d pd n hx _ h0 h1 hz hn hn2
    obtain ⟨c, r, p1, s1, e1, a1, b1, zc, zr⟩ := logRecord_ok hl p seed h0 (by omega)
    refine ⟨d, pd, n, c, r, Ev.step (f := fun _ => some (d, pd, n, c, r)) (fun k => ?_) (Ev.now _), by omega, zc, zr⟩
    simp only [spec_DrawAppendRecord.l0]
    rw [if_neg (by omega), e1]
    rfl
  | succ m ih =>
    intro x p seed d pd n hx hm h0 h1 hz hn hn2
    by_cases hx0 : x > 0
    · have hA := specAppend_ev d pd n (⟨#[120]⟩ : ByteArray) (⟨#[]⟩ : ByteArray) (by omega) (by omega) (by decide) (by decide)
      obtain ⟨d1, q1, n1, st, hB, hsz, hn0, hn1⟩ : ∃ d1 q1 n1 st, appendB d pd n (⟨#[120]⟩ : ByteArray) (⟨#[]⟩ : ByteArray) = (d1, q1, n1, st) ∧ d1.size + q1.size ≤ d.size + pd.size + 300 ∧ 0 ≤ n1 ∧ n1 ≤ n + 1 := by
        unfold appendB
        split
        · split
          · exact ⟨_, _, _, _, rfl, by omega, by omega, by omega⟩
          · have := lineB_size n (⟨#[120]⟩ : ByteArray) (⟨#[]⟩ : ByteArray) (by omega) (by omega)
            have z1 : (⟨#[120]⟩ : ByteArray).size = 1 := rfl
            have z2 : (⟨#[]⟩ : ByteArray).size = 0 := rfl
            exact ⟨_, _, _, _, rfl, by rw [ByteArray.size_append]; omega, by omega, by omega⟩
        · exact ⟨_, _, _, _, rfl, by omega, by omega, by omega⟩
      rw [hB] at hA
      obtain ⟨d', q', n', c, r, he, hr⟩ := ih (x - 1) p seed d1 q1 n1 (by omega) (by omega) h0 h1 (by omega) (by omega) (by omega)
      refine ⟨d', q', n', c, r, Ev.step (f := fun k => (spec_AppendRecord.f k d pd n (⟨#[120]⟩ : ByteArray) (⟨#[]⟩ : ByteArray)).bind fun bt480 => (spec_DrawAppendRecord.l0 k (x - 1) l p seed bt480.1 bt480.2.1 bt480.2.2.1)) (fun k => ?_) (Ev.bind hA he), hr⟩
      simp only [spec_DrawAppendRecord.l0]
      rw [if_pos hx0, w64 (by omega)]
    · obtain ⟨c, r, p1, s1, e1, a1, b1, zc, zr⟩ := logRecord_ok hl p seed h0 (by omega)
      refine ⟨d, pd, n, c, r, Ev.step (f := fun _ => some (d, pd, n, c, r)) (fun k => ?_) (Ev.now _), by omega, zc, zr⟩
      simp only [spec_DrawAppendRecord.l0]
      rw [if_neg hx0, e1]
      rfl
theorem drawAppend_ev {l : List Int} (hl : Rd l) : ∃ d p n c r, Ev (fun k => spec_DrawAppendRecord.f k l) (d, p, n, c, r) ∧ d.size + p.size ≤ 500000 ∧ c.size ≤ 100 ∧ r.size ≤ 100 := by
  obtain ⟨d, pd, n, p, sd, he, hz, hn0, hn1, hp0, hp1⟩ := anyLog_ev hl 0
  obtain ⟨b, p1, s1, e1, a1, b1⟩ := one_ok hl p sd 40 hp0 (by omega)
  cases b with
  | true =>
    obtain ⟨v, p2, s2, e2, a2, b2, c2, d2⟩ := pick_ok hl p1 s1 2 (by omega) (by omega)
    obtain ⟨d', q', n', c, r, he2, hr⟩ := drawAppend_loop hl 60 (59 + v) p2 s2 (⟨#[]⟩ : ByteArray) (⟨#[]⟩ : ByteArray) 0 (by omega) (by omega) (by omega) (by omega) (by decide) (by omega) (by omega)
    refine ⟨d', q', n', c, r, ?_, by omega, hr.2⟩
    unfold spec_DrawAppendRecord.f
    refine Ev.bind he (Ev.congr (fun k => ?_) he2)
    simp only
    rw [e1]; simp only [obs, if_true]
    rw [e2]; simp only [obs]
    rw [w64 (by omega)]
  | false =>
    obtain ⟨c, r, p2, s2, e2, a2, b2, zc, zr⟩ := logRecord_ok hl p1 s1 (by omega) (by omega)
    refine ⟨d, pd, n, c, r, ?_, hz, zc, zr⟩
    unfold spec_DrawAppendRecord.f
    refine Ev.bind he (Ev.congr (fun k => ?_) (Ev.now _))
    simp only
    rw [e1]; simp only [obs]
    rw [if_neg (by simp), e2]; simp only [obs]
end Go.Proofs.YtccbpfconceoeaaDoor.Pure
