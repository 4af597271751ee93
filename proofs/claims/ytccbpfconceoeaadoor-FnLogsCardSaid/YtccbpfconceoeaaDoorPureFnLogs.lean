/- The law FnLogs over the printed functions: for every input it answers true. Conditions: the sizes that every row grants. -/
import Derived.Test.YtccbpfconceoeaaDoorPx0
import Derived.Test.YtccbpfconceoeaaDoorPx12
import Derived.Test.YtccbpfconceoeaaDoorPx15
import Derived.Test.YtccbpfconceoeaaDoorPx16
import Derived.Test.YtccbpfconceoeaaDoorPx17
import Derived.Test.YtccbpfconceoeaaDoorPx18
import Derived.Test.YtccbpfconceoeaaDoorPureA
import Derived.Test.YtccbpfconceoeaaDoorPureE
import Derived.Test.YtccbpfconceoeaaDoorPureG
import Derived.Test.YtccbpfconceoeaaDoorPureJ
import Derived.Test.YtccbpfconceoeaaDoorPureV
namespace Go.Proofs.YtccbpfconceoeaaDoor.Pure
open Go.RowKit Go.Proofs.YtccbpfconceoeaaDoor.P Go.Proofs.YtccbpfconceoeaaDoorW.PrintWords Go.Proofs.YtccbpfconceoeaaDoorW.PrintLast Go.Proofs.YtccbpfconceoeaaDoorW.PrintMore
theorem rd27_at (pre l : List S27) (a : S27) : rd_T27 (pre ++ a :: l) (pre.length : Int) = a := by
  unfold rd_T27
  rw [Int.toNat_natCast, List.getD_eq_getElem?_getD, List.getElem?_append_right (Nat.le_refl _), Nat.sub_self]; rfl
theorem among_ok {l : List Int} (hl : Rd l) (p seed : Int) (ts : List Int) (hts : 0 < ts.length) (h0 : 0 ≤ p) (h1 : p ≤ 100000000000) : ∃ t p' sd, spec_l1Cur_among.f l p seed ts = some (t, p', sd) ∧ p ≤ p' ∧ p' ≤ p + 2 ∧ t ∈ ts := by
  obtain ⟨v, p', sd, e, h2, h3, h4, h5⟩ := pick_ok hl p seed (ts.length : Int) h0 h1
  unfold spec_l1Cur_among.f
  rw [e]
  simp only [obs]
  rw [if_pos h4, if_pos (by omega)]
  refine ⟨_, _, _, rfl, h2, h3, ?_⟩
  unfold rd
  rw [List.getD_eq_getElem?_getD, List.getElem?_eq_getElem (by omega)]
  exact List.getElem_mem _
theorem logs_j2 (st : Int) (d p : ByteArray) (n : Int) (c r : ByteArray) (d2 p2 : ByteArray) (n2 : Int) (hz : d.size + p.size ≤ 500000) (hc : c.size ≤ 100) (hr : r.size ≤ 100) (hB : appendB d p n c r = (d2, p2, n2, st)) :
    Ev (fun k => laws_FnLogs.j2 k st (recsB d p n).1 false d p n c r d2 p2 n2) true := by
  unfold appendB at hB
  by_cases hv : (validB d p n && recB c r) = true
  · rw [if_pos hv] at hB
    rw [Bool.and_eq_true] at hv
    obtain ⟨hv, hrec⟩ := hv
    by_cases hn : n = 60
    · rw [if_pos hn] at hB
      simp only [Prod.mk.injEq] at hB
      obtain ⟨rfl, rfl, rfl, rfl⟩ := hB
      refine Ev.step (f := fun _ => some true) (fun k => ?_) (Ev.now _)
      simp only [laws_FnLogs.j2]
      rw [if_neg (by simp), if_neg (by omega)]
      simp
    · rw [if_neg hn] at hB
      simp only [Prod.mk.injEq] at hB
      obtain ⟨rfl, rfl, rfl, rfl⟩ := hB
      obtain ⟨v2, r2⟩ := valid_more d p n c r hv hrec hn
      have hls := lineB_size n c r (by have := validB_len hv; omega) (by have := validB_len hv; have := (recs_len (d ++ p)).1; omega)
      have hps : (p ++ lineB n c r).size = p.size + (lineB n c r).size := ByteArray.size_append
      have hL := implLogRecs_ev d (p ++ lineB n c r) (n + 1) (by omega) (by omega)
      have hV := implValid_ev d (p ++ lineB n c r) (n + 1) (by omega) (by omega)
      rw [v2] at hV
      have e1 : recsB d (p ++ lineB n c r) (n + 1) = (recsOf (d ++ p) ++ [⟨c, r⟩], true) := by unfold recsB; rw [if_pos v2, v2, r2]
      have e2 : recsB d p n = (recsOf (d ++ p), true) := by unfold recsB; rw [if_pos hv, hv]
      rw [e1] at hL
      rw [e2]
      have h60 := (recs_len (d ++ p)).1
      have hvr := vRec_ev (recsOf (d ++ p)) (by omega)
      obtain ⟨L, hLL⟩ : ∃ L, L = recsOf (d ++ p) := ⟨_, rfl⟩
      rw [← hLL] at hL hvr h60 ⊢
      have hlen : (L ++ [(⟨c, r⟩ : S27)]).length = L.length + 1 := by simp
      refine Ev.step (f := fun k => (impl_LogRecords.f k d (p ++ lineB n c r) (n + 1)).bind fun bt484 => ((impl_IsValidLog.f k d (p ++ lineB n c r) (n + 1)).bind fun t488 => (if t488 = true then (if (bt484.1.length : Int) = (wrap64 ((L.length : Int) + 1)) then (if 0 ≤ (L.length : Int) then (if (L.length : Int) ≤ (bt484.1.length : Int) then ((laws_vRecords.f k (bt484.1.take ((L.length : Int) : Int).toNat) L).bind fun t493 => (if t493 = true then (if (L.length : Int) < (bt484.1.length : Int) then (some ((((rd_T27 bt484.1 (L.length : Int)).f0).toList) == c.toList && ((((rd_T27 bt484.1 (L.length : Int)).f1).toList) == r.toList))) else (none)) else (some false))) else (none)) else (none)) else (some false)) else (some false)))) (fun k => ?_) (Ev.bind hL (Ev.bind hV (Ev.congr (f := fun k => (laws_vRecords.f k L L).bind fun t493 => (if t493 = true then some true else some false)) (fun k => ?_) (Ev.bind hvr (Ev.now _)))))
      · simp only [laws_FnLogs.j2]
        rw [if_neg (by simp), if_pos trivial]
      · simp only [if_true]
        rw [hlen, if_pos (by rw [w64 (by omega)]; omega), if_pos (by omega), if_pos (by omega), if_pos (by omega), Int.toNat_natCast, List.take_left' rfl]
        have e3 : rd_T27 (L ++ [(⟨c, r⟩ : S27)]) (L.length : Int) = ⟨c, r⟩ := rd27_at L [] ⟨c, r⟩
        rw [e3]
        simp
  · rw [if_neg hv] at hB
    simp only [Prod.mk.injEq] at hB
    obtain ⟨rfl, rfl, rfl, rfl⟩ := hB
    refine Ev.step (f := fun _ => some true) (fun k => ?_) (Ev.now _)
    simp only [laws_FnLogs.j2]
    rw [if_neg (by simp), if_neg (by omega)]
    simp
theorem logs_j0 (st : Int) (d p : ByteArray) (n : Int) (c r : ByteArray) (d2 p2 : ByteArray) (n2 : Int) (hz : d.size + p.size ≤ 500000) (hc : c.size ≤ 100) (hr : r.size ≤ 100) (hB : appendB d p n c r = (d2, p2, n2, st)) :
    Ev (fun k => laws_FnLogs.j0 k st false d p n c r d2 p2 n2) true := by
  have h2 := logs_j2 st d p n c r d2 p2 n2 hz hc hr hB
  have hl := recsB_len d p n
  have hvr := vRec_ev (recsB d p n).1 (by omega)
  have h1 : Ev (fun k => laws_FnLogs.j1 k st (syncB d p n).2.2.2 (recsB d p n).1 false d p n c r d2 p2 n2 (syncB d p n).1 (syncB d p n).2.1 (syncB d p n).2.2.1) true := by
    unfold syncB
    by_cases hv : validB d p n = true
    · rw [if_pos hv]
      obtain ⟨v3, r3⟩ := valid_sync d p n hv
      have hL := implLogRecs_ev (d ++ p) (⟨#[]⟩ : ByteArray) n (by rw [app_size]; omega) (by decide)
      have e1 : recsB (d ++ p) (⟨#[]⟩ : ByteArray) n = recsB d p n := by unfold recsB; rw [if_pos v3, v3, r3, if_pos hv, hv]
      rw [e1] at hL
      refine Ev.step (f := fun k => (impl_LogRecords.f k (d ++ p) (⟨#[]⟩ : ByteArray) n).bind fun bt479 => ((laws_vRecords.f k bt479.1 (recsB d p n).1).bind fun t483 => (laws_FnLogs.j2 k st (recsB d p n).1 (!t483) d p n c r d2 p2 n2))) (fun k => ?_) (Ev.bind hL (Ev.bind hvr (Ev.congr (fun k => by simp) h2)))
      simp only [laws_FnLogs.j1]
      rw [if_neg (by simp)]
      simp only [if_true]
    · rw [if_neg hv]
      have hL := implLogRecs_ev (⟨#[]⟩ : ByteArray) (⟨#[]⟩ : ByteArray) 0 (by decide) (by decide)
      refine Ev.step (f := fun k => (impl_LogRecords.f k (⟨#[]⟩ : ByteArray) (⟨#[]⟩ : ByteArray) 0).bind fun bt479 => (laws_FnLogs.j2 k st (recsB d p n).1 false d p n c r d2 p2 n2)) (fun k => ?_) (Ev.bind hL h2)
      simp only [laws_FnLogs.j1]
      rw [if_neg (by simp)]
      simp only [Bool.false_eq_true, if_false]
  refine Ev.step (f := fun k => (impl_SyncLog.f k d p n).bind fun bt460 => ((spec_SyncLog.f k d p n).bind fun bt465 => ((impl_LogRecords.f k d p n).bind fun bt470 => ((spec_LogRecords.f k d p n).bind fun bt474 => (if (!(bt460.1.toList == bt465.1.toList) || (!(bt460.2.1.toList == bt465.2.1.toList) || (!(bt460.2.2.1 == bt465.2.2.1)))) = true then (laws_FnLogs.j1 k st bt460.2.2.2 bt470.1 true d p n c r d2 p2 n2 bt460.1 bt460.2.1 bt460.2.2.1) else (if (bt460.2.2.2 != bt465.2.2.2) = true then (laws_FnLogs.j1 k st bt460.2.2.2 bt470.1 true d p n c r d2 p2 n2 bt460.1 bt460.2.1 bt460.2.2.1) else (if (bt470.2 != bt474.2) = true then (laws_FnLogs.j1 k st bt460.2.2.2 bt470.1 true d p n c r d2 p2 n2 bt460.1 bt460.2.1 bt460.2.2.1) else ((laws_vRecords.f k bt470.1 bt474.1).bind fun t478 => (laws_FnLogs.j1 k st bt460.2.2.2 bt470.1 (!t478) d p n c r d2 p2 n2 bt460.1 bt460.2.1 bt460.2.2.1)))))))))
    (fun k => ?_) (Ev.bind (implSync_ev d p n (by omega) (by omega)) (Ev.bind (specSync_ev d p n (by omega) (by omega)) (Ev.bind (implLogRecs_ev d p n (by omega) (by omega)) (Ev.bind (specLogRecs_ev d p n (by omega) (by omega)) (Ev.congr (f := fun k => (laws_vRecords.f k (recsB d p n).1 (recsB d p n).1).bind fun t478 => (laws_FnLogs.j1 k st (syncB d p n).2.2.2 (recsB d p n).1 (!t478) d p n c r d2 p2 n2 (syncB d p n).1 (syncB d p n).2.1 (syncB d p n).2.2.1)) (fun k => ?_) (Ev.bind hvr (Ev.congr (fun k => by simp) h1)))))))
  · simp only [laws_FnLogs.j0]
    rw [if_neg (by simp)]
  · rw [if_neg (by simp), if_neg (by simp), if_neg (by simp)]
theorem FnLogs : laws_FnLogs.Pure := by
  intro l hlen hlen2 hwf
  refine Ev.rounds ?_
  unfold laws_FnLogs.f laws_vBig.f
  simp only [obs]
  by_cases hb : (l.length : Int) > 65536
  · rw [decide_eq_true hb]; simp only [if_true]; exact Ev.now _
  · rw [decide_eq_false hb]
    have hl : Rd l := fun x hx => by
      have := hwf x hx
      simp only [Lit.wf, Bool.and_eq_true, decide_eq_true_eq] at this
      have e1 : IntKind.u8.min = 0 := by decide
      have e2 : IntKind.u8.max = 255 := by decide
      omega
    refine Ev.congr (fun k => by rw [if_neg (by simp)]) ?_
    obtain ⟨c0, r0, p0, s0, e0, _, _, z0, z0'⟩ := logRecord_ok hl 0 0 (by omega) (by omega)
    have hD0 : spec_DrawIsValidRecord.f l = some (c0, r0) := by unfold spec_DrawIsValidRecord.f; rw [e0]; rfl
    rw [hD0]
    simp only [obs]
    have hcut1 := vCut_ev l 1 (by omega) (by omega)
    have hrd1 := vCut_rd hl 1
    have hcut2 := vCut_ev l 2 (by omega) (by omega)
    have hrd2 := vCut_rd hl 2
    have hcut3 := vCut_ev l 3 (by omega) (by omega)
    have hrd3 := vCut_rd hl 3
    obtain ⟨L1, hL1⟩ : ∃ L, L = (if (1 : Int) > (l.length : Int) then [((l.length : Int)) % 256] else l.drop (1 : Int).toNat ++ [(1 : Int) % 256]) := ⟨_, rfl⟩
    rw [← hL1] at hcut1 hrd1
    obtain ⟨k1, p1, s1, e1, a1, b1, m1⟩ := among_ok hrd1 0 0 ([0, 1, 12, 59, 60, (-1)] : List Int) (by decide) (by omega) (by omega)
    obtain ⟨c1, r1, p2, s2, e2, _, _, z1, z1'⟩ := logRecord_ok hrd1 p1 s1 (by omega) (by omega)
    have hD1 : spec_DrawEncodeRecord.f L1 = some (k1, c1, r1) := by unfold spec_DrawEncodeRecord.f; rw [e1]; simp only [obs]; rw [e2]; rfl
    obtain ⟨L2, hL2⟩ : ∃ L, L = (if (2 : Int) > (l.length : Int) then [((l.length : Int)) % 256] else l.drop (2 : Int).toNat ++ [(2 : Int) % 256]) := ⟨_, rfl⟩
    rw [← hL2] at hcut2 hrd2
    obtain ⟨d3, p3, n3, q3, sd3, he3, hz3, _⟩ := anyLog_ev hrd2 0
    have hD2 : Ev (fun k => spec_DrawIsValidLog.f k L2) (d3, p3, n3) := by
      unfold spec_DrawIsValidLog.f
      exact Ev.bind he3 (Ev.now _)
    obtain ⟨d, p, n, c, r, hD3, hz, hc, hr⟩ := drawAppend_ev hrd3
    obtain ⟨d2, pp, n2, st, hB⟩ : ∃ d2 pp n2 st, appendB d p n c r = (d2, pp, n2, st) := ⟨_, _, _, _, rfl⟩
    have hA1 := implAppend_ev d p n c r (by omega) (by omega) (by omega) (by omega)
    have hA2 := specAppend_ev d p n c r (by omega) (by omega) (by omega) (by omega)
    rw [hB] at hA1 hA2
    refine Ev.bind hcut1 ?_
    rw [hD1]
    simp only [obs]
    refine Ev.bind (implEncode_ev k1 c1 r1 (by omega) (by omega)) (Ev.bind (specEncode_ev k1 c1 r1 (by omega) (by omega)) (Ev.bind hcut2 (Ev.bind hD2 (Ev.bind hcut3 (Ev.bind hD3 (Ev.bind hA1 (Ev.bind hA2 (Ev.bind (IsValidRecord_ev c0 r0 (by omega) (by omega)) (Ev.bind (Ev.bind (l12Record_ev c0 r0 (by omega) (by omega)) (Ev.now _)) ?_)))))))))
    have main := logs_j0 st d p n c r d2 pp n2 hz hc hr hB
    refine Ev.congr (f := fun k => (impl_IsValidLog.f k d3 p3 n3).bind fun t458 => ((spec_IsValidLog.f k d3 p3 n3).bind fun t459 => (if (t458 != t459) = true then (laws_FnLogs.j0 k st true d p n c r d2 pp n2) else (laws_FnLogs.j0 k st false d p n c r d2 pp n2)))) (fun k => ?_) (Ev.bind (implValid_ev d3 p3 n3 (by omega) (by omega)) (Ev.bind (Ev.bind (specValid_ev d3 p3 n3 (by omega) (by omega)) (Ev.now _)) (Ev.congr (fun k => by simp) main)))
    simp
end Go.Proofs.YtccbpfconceoeaaDoor.Pure
