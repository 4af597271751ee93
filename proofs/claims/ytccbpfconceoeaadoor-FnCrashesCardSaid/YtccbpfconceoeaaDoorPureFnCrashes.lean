/- The law FnCrashes over the printed functions: for every input it answers true. Conditions: the sizes that every row grants. -/
import Derived.Test.YtccbpfconceoeaaDoorPx0
import Derived.Test.YtccbpfconceoeaaDoorPx5
import Derived.Test.YtccbpfconceoeaaDoorPx10
import Derived.Test.YtccbpfconceoeaaDoorPx12
import Derived.Test.YtccbpfconceoeaaDoorPx14
import Derived.Test.YtccbpfconceoeaaDoorPx17
import Derived.Test.YtccbpfconceoeaaDoorPx18
import Derived.Test.YtccbpfconceoeaaDoorPureA
import Derived.Test.YtccbpfconceoeaaDoorPureB
import Derived.Test.YtccbpfconceoeaaDoorPureD
import Derived.Test.YtccbpfconceoeaaDoorPureE
import Derived.Test.YtccbpfconceoeaaDoorPureFnExactCrashLog
import Derived.Test.YtccbpfconceoeaaDoorPureG
import Derived.Test.YtccbpfconceoeaaDoorPureH
namespace Go.Proofs.YtccbpfconceoeaaDoor.Pure
open Go.RowKit Go.Proofs.YtccbpfconceoeaaDoor.P Go.Proofs.YtccbpfconceoeaaDoorW.PrintWords Go.Proofs.YtccbpfconceoeaaDoorW.PrintLast Go.Proofs.YtccbpfconceoeaaDoorW.PrintMore
open Classical
noncomputable def recoverB (s : ByteArray) : ByteArray × ByteArray × Int × Int × Bool := if (s.size : Int) > 30000 then ((⟨#[]⟩ : ByteArray), (⟨#[]⟩ : ByteArray), 0, 0, false) else (s.extract 0 (endOf s), (⟨#[]⟩ : ByteArray), ((recsOf s).length : Int), (endOf s : Int), true)
theorem specRecover_ev (s : ByteArray) : Ev (fun q => spec_RecoverLog.f q s) (recoverB s) := by
  unfold recoverB
  by_cases h1 : (s.size : Int) > 30000
  · rw [if_pos h1]; exact Ev.congr (fun q => by unfold spec_RecoverLog.f; rw [if_pos h1]) (Ev.now _)
  · rw [if_neg h1]
    have he := endOf_le s
    refine Ev.congr (fun q => by unfold spec_RecoverLog.f; rw [if_neg h1]) (Ev.bind (open_ev s (by omega)) (Ev.congr (fun q => ?_) (Ev.now _)))
    simp only
    rw [if_pos (by omega), if_pos (by omega), Int.toNat_natCast]
theorem implRecover_ev (s : ByteArray) : Ev (fun q => impl_RecoverLog.f q s) (recoverB s) := by
  unfold recoverB
  by_cases h1 : (s.size : Int) > 30000
  · rw [if_pos h1]; exact Ev.congr (fun q => by unfold impl_RecoverLog.f; rw [if_pos h1]) (Ev.now _)
  · rw [if_neg h1]
    have he := endOf_le s
    have hl := recs_len s
    have hi := intEnds_len s
    have hr := rd_last s
    refine Ev.congr (fun q => by unfold impl_RecoverLog.f; rw [if_neg h1]) (Ev.bind (recs_ev s (by omega)) (Ev.congr (fun q => ?_) (Ev.now _)))
    simp only
    rw [hr, w64 (by omega), if_pos (by omega), if_pos (by omega), if_pos (by omega), if_pos (by omega), Int.toNat_natCast]
theorem implRecords_ev (d p : ByteArray) (n : Int) (hd : d.size ≤ 140737488351232) (hp : p.size ≤ 140737488351232) (h : validB d p n = true) : Ev (fun q => impl_LogRecords.f q d p n) (recsOf (d ++ p), true) := by
  refine Ev.bind (read_ev d p n hd hp) ?_
  have hs := validB_small h
  refine Ev.congr (fun q => by rw [if_pos h]) ?_
  unfold readB
  rw [if_pos hs]
  exact Ev.now _
theorem drawCrash_ev {l : List Int} (hl : Rd l) : ∃ d p n keep torn, Ev (fun k => spec_DrawCrashLog.f k l) (d, p, n, keep, torn) ∧ d.size + p.size ≤ 500000 := by
  obtain ⟨d, pd, n, p, sd, he, hz, hn0, hn1, hp0, hp1⟩ := anyLog_ev hl 0
  have hw : wrap64 ((pd.size : Int) + 3) = (pd.size : Int) + 3 := w64 (by omega)
  obtain ⟨v, p1, s1, e1, a1, b1, c1, d1⟩ := pick_ok hl p sd ((pd.size : Int) + 3) hp0 (by omega)
  obtain ⟨b, p2, s2, e2, a2, b2⟩ := one_ok hl p1 s1 2 (by omega) (by omega)
  refine ⟨d, pd, n, wrap64 (v - 1), b, ?_, hz⟩
  unfold spec_DrawCrashLog.f
  refine Ev.bind he (Ev.congr (fun k => ?_) (Ev.now _))
  simp only
  rw [hw, e1]; simp only [obs]
  rw [e2]; simp only [obs]
theorem drawRecover_ev {l : List Int} (hl : Rd l) : ∃ t, Ev (fun k => spec_DrawRecoverLog.f k l) t := by
  have J : ∀ (x : ByteArray) (p sd : Int), 0 ≤ p → p ≤ 10000000000 → ∃ t, Ev (fun k => spec_DrawRecoverLog.j0 k x l p sd) t := by
    intro x p sd h0 h1
    obtain ⟨b, p2, s2, e2, a2, b2⟩ := one_ok hl p sd 40 h0 (by omega)
    obtain ⟨v, p1, s1, e1, a1, b1, c1, d1⟩ := pick_ok hl p2 s2 2 (by omega) (by omega)
    cases b with
    | true =>
      refine ⟨strOfNums (List.replicate (30000 + v).toNat 0), Ev.step (f := fun _ => some _) (fun k => ?_) (Ev.now _)⟩
      simp only [spec_DrawRecoverLog.j0]
      rw [e2]; simp only [obs, if_true]
      rw [e1]; simp only [obs]
      rw [w64 (by omega), if_pos (by omega), if_pos (by omega)]
    | false =>
      refine ⟨x, Ev.step (f := fun _ => some x) (fun k => ?_) (Ev.now _)⟩
      simp only [spec_DrawRecoverLog.j0]
      rw [e2]; simp only [obs]
      rw [if_neg (by simp)]
  obtain ⟨d, pd, n, p, sd, he, hz, hn0, hn1, hp0, hp1⟩ := log12_ev hl 0
  obtain ⟨v, p1, s1, e1, a1, b1, c1, d1⟩ := pick_ok hl p sd 4 hp0 (by omega)
  have key : ∀ t, Ev (fun k => if v = 0 then ((spec_l1Cur_spoilt.f l p1 s1 (d ++ pd) (⟨#[35, 64, 10, 48, 49]⟩ : ByteArray)).bind fun bt537 => (spec_DrawRecoverLog.j0 k bt537.1 l bt537.2.1 bt537.2.2)) else (if v = 1 then ((spec_l1Cur_pick.f l p1 s1 (((d.size : Int) + (pd.size : Int)) + 1)).bind fun bt540 => (if 0 ≤ bt540.1 then (if bt540.1 ≤ ((d.size : Int) + (pd.size : Int)) then (spec_DrawRecoverLog.j0 k ((d ++ pd).extract 0 (bt540.1 : Int).toNat) l bt540.2.1 bt540.2.2) else (none)) else (none))) else (if v = 2 then ((spec_l1Cur_pick.f l p1 s1 4).bind fun bt543 => ((spec_l1Cur_logRecord.f l bt543.2.1 bt543.2.2).bind fun bt546 => ((spec_l12Line.f k bt543.1 bt546.1 bt546.2.1).bind fun t550 => (if d.size + pd.size + t550.size ≤ 9223372036854775807 then (spec_DrawRecoverLog.j0 k ((d ++ pd) ++ t550) l bt546.2.2.1 bt546.2.2.2) else (none))))) else (spec_DrawRecoverLog.j0 k (d ++ pd) l p1 s1)))) t → Ev (fun k => spec_DrawRecoverLog.f k l) t := by
    intro t ht
    unfold spec_DrawRecoverLog.f
    refine Ev.bind he (Ev.congr (fun k => ?_) ht)
    simp only
    rw [if_pos (by omega), e1]; simp only [obs]
    rw [w64 (by omega)]
  have hz2 : (d ++ pd).size = d.size + pd.size := ByteArray.size_append
  by_cases q0 : v = 0
  · obtain ⟨t, p2, s2, e2, a2, b2, z2⟩ := spoilt_ok hl p1 s1 (d ++ pd) (⟨#[35, 64, 10, 48, 49]⟩ : ByteArray) (by decide) (by decide) (by omega) (by omega) (by omega)
    obtain ⟨r, hr⟩ := J t p2 s2 (by omega) (by omega)
    exact ⟨r, key r (Ev.congr (fun k => by rw [if_pos q0, e2]; simp only [obs]) hr)⟩
  · by_cases q1 : v = 1
    · obtain ⟨v2, p2, s2, e2, a2, b2, c2, d2⟩ := pick_ok hl p1 s1 (((d.size : Int) + (pd.size : Int)) + 1) (by omega) (by omega)
      obtain ⟨r, hr⟩ := J ((d ++ pd).extract 0 (v2 : Int).toNat) p2 s2 (by omega) (by omega)
      exact ⟨r, key r (Ev.congr (fun k => by rw [if_neg q0, if_pos q1, e2]; simp only [obs]; rw [if_pos c2, if_pos (by omega)]) hr)⟩
    · by_cases q2 : v = 2
      · obtain ⟨v2, p2, s2, e2, a2, b2, c2, d2⟩ := pick_ok hl p1 s1 4 (by omega) (by omega)
        obtain ⟨c, r, p3, s3, e3, a3, b3, zc, zr⟩ := logRecord_ok hl p2 s2 (by omega) (by omega)
        have hline := l12Line_ev v2 c r (by omega) (by omega) (by omega) (by omega)
        have hls := lineB_size v2 c r (by omega) (by omega)
        obtain ⟨y, hy⟩ := J ((d ++ pd) ++ lineB v2 c r) p3 s3 (by omega) (by omega)
        refine ⟨y, key y (Ev.congr (f := fun k => (spec_l12Line.f k v2 c r).bind fun t550 => (if d.size + pd.size + t550.size ≤ 9223372036854775807 then (spec_DrawRecoverLog.j0 k ((d ++ pd) ++ t550) l p3 s3) else (none))) (fun k => ?_) (Ev.bind hline (Ev.congr (fun k => ?_) hy)))⟩
        · rw [if_neg q0, if_neg q1, if_pos q2, e2]; simp only [obs]; rw [e3]; simp only [obs]
        · rw [if_pos (by omega)]
      · obtain ⟨r, hr⟩ := J (d ++ pd) p1 s1 (by omega) (by omega)
        exact ⟨r, key r (Ev.congr (fun k => by rw [if_neg q0, if_neg q1, if_neg q2]) hr)⟩
theorem vRec_loop : ∀ (l pre : List S27), (pre ++ l).length ≤ 100000 → Ev (fun q => laws_vRecords.l0 q (pre ++ l) (pre ++ l) (pre.length : Int)) true := by
  intro l
  induction l with
  | nil =>
    intro pre hz
    refine Ev.step (f := fun _ => some true) (fun q => ?_) (Ev.now _)
    simp only [laws_vRecords.l0]
    rw [if_neg (by simp)]
  | cons a l ih =>
    intro pre hz
    have hz' := hz
    simp only [List.length_append, List.length_cons] at hz'
    have h3 := ih (pre ++ [a]) (by simp; omega)
    rw [List.append_assoc] at h3
    refine Ev.step (f := fun q => laws_vRecords.l0 q (pre ++ a :: l) (pre ++ a :: l) ((pre.length + 1 : Nat) : Int)) (fun q => ?_) (Ev.congr (fun q => by simp) h3)
    simp only [laws_vRecords.l0]
    have h4 : (pre.length : Int) < ((pre ++ a :: l).length : Int) := by simp only [List.length_append, List.length_cons]; omega
    rw [if_pos h4, if_pos (by omega), if_pos h4, w64 (by omega), if_neg (by simp)]
    rfl
theorem vRec_ev (l : List S27) (h : l.length ≤ 1000) : Ev (fun q => laws_vRecords.f q l l) true := by
  refine Ev.congr (fun q => ?_) (vRec_loop l [] (by simp; omega))
  unfold laws_vRecords.f
  rw [if_pos rfl]
  rfl
/-- What stands in a log behind a crash, beside the log's own text. -/
theorem crash_scan (d p : ByteArray) (n keep : Int) (torn : Bool) (hv : validB d p n = true) (h0 : 0 ≤ keep) (h1 : keep ≤ p.size) (s : ByteArray) (hs : s = d ++ strOfNums (tornL torn keep (keep - 1) (bytesOf (p.extract 0 keep.toNat)))) :
    s.size ≤ 30000 ∧ d.size ≤ endOf s ∧ (∃ rest, recsOf (d ++ p) = recsOf s ++ rest) ∧ (torn = false → keep = p.size → recsOf s = recsOf (d ++ p)) := by
  have hsm := validB_small hv
  obtain ⟨m, rfl⟩ := Int.eq_ofNat_of_zero_le h0
  have hm : m ≤ p.size := by omega
  rw [Int.toNat_natCast] at hs
  have hq : (p.extract 0 m).size = m := by rw [ByteArray.size_extract]; omega
  have hbq : bs (p.extract 0 m) = (bs p).take m := by rw [bs_extract, List.drop_zero]
  have hv' := hv
  unfold validB at hv'
  simp only [Bool.and_eq_true, decide_eq_true_eq] at hv'
  obtain ⟨_, hA, hD, _⟩ := hv'
  have hds : d.size ≤ endOf s := by
    obtain ⟨e, he⟩ : ∃ e, s = d ++ e := ⟨_, hs⟩
    have hc := (scan_cut (bs d) (bs e) 60 [] 0 (by omega)).1 (by rw [bs_len]; exact hD)
    rw [bs_len, ← bs_append, ← he] at hc
    exact scan_last_mem (bs s) 60 [] 0 _ hc
  have hp245 : ∀ b ∈ bs p, b ≠ 245 := by
    intro b hb
    have := scan_245 (bs (d ++ p)) 60 [] 0 (by omega) (by rw [bs_len, app_size]; exact hA) b
    rw [List.drop_zero, bs_append] at this
    exact this (List.mem_append_right _ hb)
  by_cases ht : torn = true ∧ 0 < (m : Int)
  · have hmp : 0 < m := by omega
    have hml : m - 1 < (bs p).length := by rw [bs_len]; omega
    obtain ⟨b, hb⟩ : ∃ b, (bs p)[m - 1]? = some b := ⟨_, List.getElem?_eq_getElem hml⟩
    have hbm := hp245 b (List.mem_of_getElem? hb)
    have hsplit : (bs p).take m = (bs p).take (m - 1) ++ [b] := by
      have h2 := List.take_add_one (l := bs p) (i := m - 1)
      rw [show m - 1 + 1 = m by omega, hb] at h2
      exact h2
    obtain ⟨x, hx⟩ : ∃ x : UInt8, x = UInt8.ofNat ((255 - (b.toNat : Int)) % 256).toNat := ⟨_, rfl⟩
    have hb256 := b.toNat_lt
    have hx10 : x ≠ 10 := by
      intro e
      have h4 : ((255 - (b.toNat : Int)) % 256).toNat = 255 - b.toNat := by omega
      have h3 : x.toNat = 255 - b.toNat := by
        rw [hx, h4, UInt8.toNat_ofNat']
        exact Nat.mod_eq_of_lt (by omega)
      rw [e] at h3
      have h5 : (10 : UInt8).toNat = 10 := rfl
      apply hbm
      apply UInt8.toNat_inj.1
      have h6 : (245 : UInt8).toNat = 245 := rfl
      omega
    have hl1 : ((bs p).take (m - 1)).length = m - 1 := by rw [List.length_take, bs_len]; omega
    have hset : bs (strOfNums (tornL torn (m : Int) ((m : Int) - 1) (bytesOf (p.extract 0 m)))) = (bs p).take (m - 1) ++ [x] := by
      unfold tornL
      rw [if_pos ht]
      have e1 : ((m : Int) - 1).toNat = m - 1 := by omega
      have e2 : bytesOf (p.extract 0 m) = ((bs p).take (m - 1)).map (fun c => (c.toNat : Int)) ++ [(b.toNat : Int)] := by
        unfold bytesOf
        rw [show (p.extract 0 m).data.toList = (bs p).take m from hbq, hsplit, List.map_append]
        rfl
      have e3 : rd (bytesOf (p.extract 0 m)) ((m : Int) - 1) = (b.toNat : Int) := by
        unfold rd
        rw [e1, e2, List.getD_eq_getElem?_getD, List.getElem?_append_right (by rw [List.length_map, hl1]; omega), List.length_map, hl1, Nat.sub_self]
        rfl
      rw [e3, e1, e2, List.set_append_right _ _ (by rw [List.length_map, hl1]; omega), List.length_map, hl1, Nat.sub_self]
      simp only [List.set_cons_zero]
      have e4 : ∀ (u : List UInt8) (z : Int), bs (strOfNums (u.map (fun c => (c.toNat : Int)) ++ [z])) = u ++ [UInt8.ofNat z.toNat] := by
        intro u z
        unfold strOfNums bs
        simp only [List.map_append, List.map_map, List.map_cons, List.map_nil]
        have : ((fun n : Int => UInt8.ofNat n.toNat) ∘ fun c : UInt8 => (c.toNat : Int)) = id := by funext c; simp
        rw [this, List.map_id]
      rw [e4, hx]
    have hbs : bs s = (bs d ++ (bs p).take (m - 1)) ++ [x] := by rw [hs, bs_append, hset, List.append_assoc]
    have hsz : s.size = d.size + m := by rw [← bs_len, hbs]; simp only [List.length_append, hl1, List.length_cons, List.length_nil, bs_len]; omega
    have hrec : recsOf s = (scan (bs d ++ (bs p).take (m - 1)) 60 [] 0).1 := by unfold recsOf; rw [hbs, scan_torn _ x hx10 60 [] 0 (by omega)]
    refine ⟨by omega, hds, ?_, fun hf => ?_⟩
    · have hAp : bs (d ++ p) = (bs d ++ (bs p).take (m - 1)) ++ (bs p).drop (m - 1) := by rw [bs_append, List.append_assoc, List.take_append_drop]
      obtain ⟨rest, hr⟩ := scan_pre (bs d ++ (bs p).take (m - 1)) ((bs p).drop (m - 1)) 60 [] 0 (by omega)
      exact ⟨rest, by rw [hrec, ← hr]; unfold recsOf; rw [hAp]⟩
    · rw [hf] at ht; exact absurd ht.1 (by simp)
  · have hset : strOfNums (tornL torn (m : Int) ((m : Int) - 1) (bytesOf (p.extract 0 m))) = p.extract 0 m := by
      unfold tornL
      rw [if_neg ht, strOfNums_bytesOf]
    rw [hset] at hs
    have hbs : bs s = bs d ++ (bs p).take m := by rw [hs, bs_append, hbq]
    have hsz : s.size = d.size + m := by rw [hs, app_size, hq]
    refine ⟨by omega, hds, ?_, fun _ hk => ?_⟩
    · have hAp : bs (d ++ p) = (bs d ++ (bs p).take m) ++ (bs p).drop m := by rw [bs_append, List.append_assoc, List.take_append_drop]
      obtain ⟨rest, hr⟩ := scan_pre (bs d ++ (bs p).take m) ((bs p).drop m) 60 [] 0 (by omega)
      exact ⟨rest, by unfold recsOf; rw [hAp, hbs]; exact hr⟩
    · have : m = (bs p).length := by rw [bs_len]; omega
      unfold recsOf
      rw [hbs, bs_append, this, List.take_length]
theorem FnCrashes : laws_FnCrashes.Pure := by
  intro l hlen hlen2 hwf
  refine Ev.rounds ?_
  unfold laws_FnCrashes.f laws_vBig.f
  simp only [obs]
  by_cases hb : (l.length : Int) > 65536
  · rw [decide_eq_true hb]; simp only [if_true]; exact Ev.now _
  · rw [decide_eq_false hb]
    have hl : Rd l := fun x hx => by
      have := hwf x hx
      simp only [Lit.wf, Bool.and_eq_true, decide_eq_true_eq] at this
      have e1 : IntKind.u8.min = 0 := by decide
      have e2 : IntKind.u8.max = 255 := by decide
      omega
    refine Ev.congr (fun k => by rw [if_neg (by simp)]) ?_
    obtain ⟨d, p, n, keep, torn, hD, hz⟩ := drawCrash_ev hl
    have hcut := vCut_ev l 1 (by omega) (by omega)
    have hrd := vCut_rd hl 1
    obtain ⟨t, hT⟩ := drawRecover_ev hrd
    refine Ev.bind hD ?_
    refine Ev.bind (implCrash_ev d p n keep torn (by omega) (by omega)) ?_
    refine Ev.bind (specCrash_ev d p n keep torn (by omega) (by omega)) ?_
    refine Ev.bind hcut (Ev.bind hT (Ev.bind (implRecover_ev t) (Ev.bind (specRecover_ev t) ?_)))
    obtain ⟨s, ok, hcr⟩ : ∃ s ok, crashB d p n keep torn = (s, ok) := ⟨_, _, rfl⟩
    rw [hcr]
    have main : Ev (fun k => laws_FnCrashes.j0 k keep torn s ok false d p n) true := by
      cases ok with
      | false => exact Ev.step (f := fun _ => some true) (fun k => by simp [laws_FnCrashes.j0]) (Ev.now _)
      | true =>
        unfold crashB at hcr
        by_cases hc : validB d p n = true ∧ 0 ≤ keep ∧ keep ≤ p.size
        case neg => rw [if_neg hc] at hcr; simp at hcr
        rw [if_pos hc] at hcr
        obtain ⟨hv, k0, k1⟩ := hc
        have hs : s = d ++ strOfNums (tornL torn keep (keep - 1) (bytesOf (p.extract 0 keep.toNat))) := (Prod.mk.inj hcr).1.symm
        obtain ⟨hsz, hde, ⟨rest, hrest⟩, hall⟩ := crash_scan d p n keep torn hv k0 k1 s hs
        have hel := endOf_le s
        have hrl := recs_len s
        have hAl := recs_len (d ++ p)
        obtain ⟨s2, hs2⟩ : ∃ s2, s.extract 0 (endOf s) = s2 := ⟨_, rfl⟩
        have hb2 : bs s2 = (bs s).take (endOf s) := by rw [← hs2, bs_extract, List.drop_zero]
        have hz2 : s2.size = endOf s := by rw [← hs2, ByteArray.size_extract]; omega
        have hown : scan (bs s2) 60 [] 0 = scan (bs s) 60 [] 0 := by rw [hb2]; exact scan_own (bs s) 60 [] 0 (by omega)
        have hr2 : recsOf s2 = recsOf s := by unfold recsOf; rw [hown]
        have he2 : endOf s2 = endOf s := by unfold endOf endsOf; rw [hown]
        have happ : s2 ++ (⟨#[]⟩ : ByteArray) = s2 := bs_inj (by rw [bs_append]; simp [bs])
        have hv2 : validB s2 (⟨#[]⟩ : ByteArray) ((recsOf s).length : Int) = true := by
          unfold validB
          have h0 : (⟨#[]⟩ : ByteArray).size = 0 := rfl
          rw [happ, h0, decide_eq_true (show s2.size + 0 ≤ 30000 by omega), decide_eq_true (show endOf s2 = s2.size + 0 by omega), decide_eq_true (show endOf s2 = s2.size by omega), hr2, decide_eq_true rfl]
          rfl
        have hI := implValid_ev s2 (⟨#[]⟩ : ByteArray) ((recsOf s).length : Int) (by omega) (by decide)
        rw [hv2] at hI
        have hR := implRecover_ev s
        unfold recoverB at hR
        rw [if_neg (by omega), hs2] at hR
        have hL1 := implRecords_ev d p n (by omega) (by omega) hv
        have hL2 := implRecords_ev s2 (⟨#[]⟩ : ByteArray) ((recsOf s).length : Int) (by omega) (by decide) hv2
        rw [happ, hr2] at hL2
        have htake : (recsOf (d ++ p)).take (recsOf s).length = recsOf s := by rw [hrest]; simp
        have hle : (recsOf s).length ≤ (recsOf (d ++ p)).length := by rw [hrest]; simp
        have hvr := vRec_ev (recsOf s) (by omega)
        have fin : Ev (fun k => laws_FnCrashes.j1 k keep torn false d p n s2 (⟨#[]⟩ : ByteArray) ((recsOf s).length : Int)) true := by
          refine Ev.step (f := fun k => (impl_LogRecords.f k d p n).bind fun bt594 => ((impl_LogRecords.f k s2 (⟨#[]⟩ : ByteArray) ((recsOf s).length : Int)).bind fun bt598 => (if (bt598.1.length : Int) ≤ (bt594.1.length : Int) then (if 0 ≤ (bt598.1.length : Int) then ((laws_vRecords.f k bt598.1 (bt594.1.take ((bt598.1.length : Int) : Int).toNat)).bind fun t606 => (if t606 = true then (if torn = true then (some true) else (if keep < (p.size : Int) then (some true) else (some ((bt598.1.length : Int) == (bt594.1.length : Int))))) else (some false))) else (none)) else (some false)))) (fun k => ?_) (Ev.bind hL1 (Ev.bind hL2 ?_))
          · simp only [laws_FnCrashes.j1]
            rw [if_neg (by simp)]
          · refine Ev.congr (f := fun k => (laws_vRecords.f k (recsOf s) (recsOf s)).bind fun t606 => (if t606 = true then (if torn = true then (some true) else (if keep < (p.size : Int) then (some true) else (some (((recsOf s).length : Int) == ((recsOf (d ++ p)).length : Int))))) else (some false))) (fun k => ?_) (Ev.bind hvr ?_)
            · simp only
              rw [if_pos (by omega), if_pos (by omega), Int.toNat_natCast, htake]
            · refine Ev.congr (fun k => ?_) (Ev.now _)
              rw [if_pos rfl]
              by_cases h1 : torn = true
              · rw [if_pos h1]
              · rw [if_neg h1]
                by_cases h2 : keep < (p.size : Int)
                · rw [if_pos h2]
                · rw [if_neg h2, hall (by simpa using h1) (by omega)]
                  simp
        refine Ev.step (f := fun k => (impl_RecoverLog.f k s).bind fun bt587 => (if bt587.2.2.2.2 = true then ((impl_IsValidLog.f k bt587.1 bt587.2.1 bt587.2.2.1).bind fun t593 => (if t593 = true then (if bt587.2.2.2.1 < (d.size : Int) then (laws_FnCrashes.j1 k keep torn true d p n bt587.1 bt587.2.1 bt587.2.2.1) else (laws_FnCrashes.j1 k keep torn ((bt587.1.size : Int) != bt587.2.2.2.1) d p n bt587.1 bt587.2.1 bt587.2.2.1)) else (laws_FnCrashes.j1 k keep torn true d p n bt587.1 bt587.2.1 bt587.2.2.1))) else (laws_FnCrashes.j1 k keep torn true d p n bt587.1 bt587.2.1 bt587.2.2.1))) (fun k => ?_) (Ev.bind hR (Ev.congr (fun k => by rw [if_pos rfl]) (Ev.bind hI ?_)))
        · simp only [laws_FnCrashes.j0]
          rw [if_neg (by simp), if_pos trivial]
        · refine Ev.congr (fun k => ?_) fin
          have h5 : ((s2.size : Int) != (endOf s : Int)) = false := by rw [hz2]; simp
          have h6 : ¬ ((endOf s : Int) < (d.size : Int)) := by omega
          simp only [if_true, if_neg h6, h5]
    refine Ev.congr (fun k => ?_) main
    simp
end Go.Proofs.YtccbpfconceoeaaDoor.Pure
